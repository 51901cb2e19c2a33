/- The walk of the document's Build, out of its element's contract; the conditions stand in the theorems. -/
import Derived.Test.YtpchljiiappmnaaG21
import Derived.Test.YtpchljiiappmnaaG4
import Derived.Test.YtpchljiiappmnaaG34
import Derived.Test.YtpchljiiappmnaaG20
namespace Go.Proofs.Ytpchljiiappmnaa
open Go Go.RowKit
variable {lo : Nat}

/-- The contract of the document's element. -/
def ElemAny (lo B : Nat) (lv : Value) (s : S) (acc : List (Tk × Bs)) : Prop :=
  ∀ (w : World) (st : BSt) (j : Nat) (o : Int), (hj : j < acc.length) → RB w B lv j st.count 0 o → TokAt lo B w s lv acc → (acc[j].1.kind = 1 ∨ acc[j].1.kind = 2) → st.root = none → st.count ≤ j →
    Calls Try.prog 64 #[.pointer (some ⟨B, 0, none⟩), .int .i64 st.stack.length, .int .i64 s.size] w (ElemOut lo B lv s st j acc w)

/-- What the document's Build returns. -/
def RBuildOut (s : S) (w : World) : Res Tr → Ending → World → Prop
  | .ok t _ => fun e w' => ∃ av kv, e = .returned (.tuple #[nodeV t av kv, .int .i64 0, .int .i64 0]) ∧ NodeOf w' t av kv ∧ Below w.heap.size w w'
  | .bad x r => fun e w' => e = .returned (.tuple #[noNode, .int .i64 x, .int .i64 (pos s r : Nat)]) ∧ Below w.heap.size w w'

theorem resN_below {B : Nat} {w W : World} {N : Nat} (h : Below B w W) (hN : B ≤ N) (a b c d : Value) : Below B w (resN W N a b c d) :=
  below_set (below_set (below_set (below_set h N 0 _ hN) N 1 _ hN) N 2 _ hN) N 3 _ hN
theorem resN_box {W : World} {N : Nat} {u0 u1 u2 u3 : Value} (h : Box W N [u0, u1, u2, u3]) (a b c d : Value) : Box (resN W N a b c d) N [a, b, c, d] := (((h.set 0 a).set 1 b).set 2 c).set 3 d
theorem resN_kept {X : Nat → Prop} {W : World} {N : Nat} (h : X N) (a b c d : Value) : KeptX X W (resN W N a b c d) :=
  (((keptX_set _ N 0 _ h).trans (keptX_set _ N 1 _ h)).trans (keptX_set _ N 2 _ h)).trans (keptX_set _ N 3 _ h)
theorem resN_grown {W : World} {N : Nat} (a b c d : Value) : W.grownBy (resN W N a b c d) (some N) := (((setCell_grown _ _ _ _).trans (setCell_grown _ _ _ _)).trans (setCell_grown _ _ _ _)).trans (setCell_grown _ _ _ _)

set_option maxRecDepth 100000 in
set_option maxHeartbeats 8000000 in
theorem refBuild_bad (s : S) (w : World) {x : Int} {r : Bs} (hs : s.size ≤ 65536) (h : allR s.data.toList = .bad x r) :
    Calls Try.prog 34 #[.string s] w (RBuildOut s w (.bad x r)) := by
  have hx0 : (x == 0) = false := beq_eq_false_iff_ne.2 (allR_bad_ne h)
  have hx1 : (x != 0) = true := by rw [bne, hx0]; rfl
  have HA : Hid (∀ W : World, Calls Try.prog 21 #[.string s] W (RAllOut s W (.bad x r))) := fun W => by rw [← h]; exact rall_any s W hs
  clear h
  go_enter Try.func34, Try.ntmps34
  go_wp2_with fail
  refine Calls.world ?_
  intro W hW
  have x0 : Box W w.heap.size [.string ⟨#[]⟩, .slice none 0 0, .slice none 0 0, .string ⟨#[]⟩] := by rw [hW]; exact Box.new w _ _ _ rfl
  have hB : Below w.heap.size w W := by rw [hW]; exact (Below.refl _ w).alloc (Nat.le_refl _) _
  clear hW
  refine (HA.out W).mono ?_
  rintro e w1 ⟨rfl, hb⟩
  have y0 := x0.below hb x0.lt
  have hB1 := hB.trans (hb.mono hB.size)
  have hst := resN_box y0 (.string ⟨#[]⟩) (.slice none 0 0) (.slice none 0 0) (.string ⟨#[]⟩)
  have hbl := resN_below hB1 (Nat.le_refl _) (.string ⟨#[]⟩) (.slice none 0 0) (.slice none 0 0) (.string ⟨#[]⟩)
  unfold resN at hst hbl
  have HST := Lib.hid hst
  have HBL := Lib.hid hbl
  have p0 := y0.cell 0 _ rfl
  have p1 := y0.cell 1 _ rfl
  have p2 := y0.cell 2 _ rfl
  have p3 := y0.cell 3 _ rfl
  have pf0 := y0.free 0
  have pf1 := y0.free 1
  have pf2 := y0.free 2
  have pf3 := y0.free 3
  have pl := y0.lt
  clear x0 hB hb y0 hB1 hst hbl
  go_wp2
  obtain ⟨W3, hW3⟩ : ∃ W3, W3 = resN w1 w.heap.size (.string ⟨#[]⟩) (.slice none 0 0) (.slice none 0 0) (.string ⟨#[]⟩) := ⟨_, rfl⟩
  unfold resN at hW3
  rw [← hW3]
  have z0 : Box W3 w.heap.size [.string ⟨#[]⟩, .slice none 0 0, .slice none 0 0, .string ⟨#[]⟩] := by rw [hW3]; exact HST.out
  have hb3 : Below w.heap.size w W3 := by rw [hW3]; exact HBL.out
  have d0 := z0.cell 0 _ rfl
  have d1 := z0.cell 1 _ rfl
  have d2 := z0.cell 2 _ rfl
  have d3 := z0.cell 3 _ rfl
  refine bodyPost_ret (v := .tuple #[noNode, .int .i64 x, .int .i64 (pos s r : Nat)]) (by simp [results, Try.results34, go_sem, d0, d1, d2, d3, noNode]) rfl ?_
  exact ⟨rfl, hb3⟩

/-- Where the loop of the document's Build stands. -/
structure LB (s : S) (lv : Value) (acc : List (Tk × Bs)) (w wr : World) (B : Nat) (j c : Nat) (rt : Option Tr) (n0 n1 n2 n3 : Value) (bad off : Int) : Prop where
  rb : RB wr B lv j c bad off
  res : Box wr w.heap.size [.string ⟨#[]⟩, .slice none 0 0, .slice none 0 0, .string ⟨#[]⟩]
  root : Box wr (B + 1) [n0, n1, n2, n3]
  below : Below w.heap.size w wr
  jl : j ≤ acc.length
  cj : c ≤ j
  sh1 : ∃ a b d, n1 = .slice a b d
  sh2 : ∃ a b d, n2 = .slice a b d
  run : (bad = 0 ∧ runB st0 acc = runB ⟨[], rt, c, false⟩ (acc.drop j) ∧ ∀ t, rt = some t → nodeV t n1 n2 = .agg #[n0, n1, n2, n3] ∧ NodeX (fun k => (B ≤ k ∨ k < w.heap.size + 1) ∧ k < B + 2) wr t n1 n2) ∨ (bad ≠ 0 ∧ ∃ r, runB st0 acc = .bad bad r ∧ off = (pos s r : Nat))

/-- The root, while only the builder's own block turns. -/
theorem root_keep {wr W : World} {B N : Nat} {rt : Option Tr} {n0 n1 n2 n3 : Value} (h : ∀ t, rt = some t → nodeV t n1 n2 = .agg #[n0, n1, n2, n3] ∧ NodeX (fun k => (B ≤ k ∨ k < N) ∧ k < B + 2) wr t n1 n2) (hg : wr.grownBy W (some B)) :
    ∀ t, rt = some t → nodeV t n1 n2 = .agg #[n0, n1, n2, n3] ∧ NodeX (fun k => (B ≤ k ∨ k < N) ∧ k < B + 2) W t n1 n2 := fun t ht =>
  ⟨(h t ht).1, (h t ht).2.keep (KeptX.grown hg (fun g e => by cases e; exact ⟨.inl (Nat.le_refl _), by omega⟩)) (fun _ _ h => h)⟩
theorem LB.later {s : S} {lv : Value} {acc : List (Tk × Bs)} {w wr W : World} {B j c : Nat} {rt : Option Tr} {n0 n1 n2 n3 : Value} {bad off : Int} (h : LB s lv acc w wr B j c rt n0 n1 n2 n3 bad off) (hb : Below wr.heap.size wr W) : LB s lv acc w W B j c rt n0 n1 n2 n3 bad off :=
  ⟨h.rb.below hb h.rb.lt, h.res.below hb h.res.lt, h.root.below hb h.root.lt, h.below.trans (hb.mono h.below.size), h.jl, h.cj, h.sh1, h.sh2, h.run.imp (fun ⟨h1, h2, h3⟩ => ⟨h1, h2, root_keep h3 (grownOf hb _)⟩) id⟩
/-- Only the builder's own block has turned. -/
theorem LB.step {s : S} {lv : Value} {acc : List (Tk × Bs)} {w wr W : World} {B j c j' c' : Nat} {rt : Option Tr} {n0 n1 n2 n3 : Value} {bad off bad' off' : Int} (h : LB s lv acc w wr B j c rt n0 n1 n2 n3 bad off) (hB : w.heap.size < B) (hg : wr.grownBy W (some B)) (hR : RB W B lv j' c' bad' off') (hj : j' ≤ acc.length) (hc : c' ≤ j')
    (hrun : (bad' = 0 ∧ runB st0 acc = runB ⟨[], rt, c', false⟩ (acc.drop j') ∧ ∀ t, rt = some t → nodeV t n1 n2 = .agg #[n0, n1, n2, n3] ∧ NodeX (fun k => (B ≤ k ∨ k < w.heap.size + 1) ∧ k < B + 2) wr t n1 n2) ∨ (bad' ≠ 0 ∧ ∃ r, runB st0 acc = .bad bad' r ∧ off' = (pos s r : Nat))) : LB s lv acc w W B j' c' rt n0 n1 n2 n3 bad' off' :=
  ⟨hR, h.res.grownB hg (by omega), h.root.grownB hg (by omega), h.below.trans ((below_grown hg (Nat.le_of_lt h.rb.lt)).mono (by omega)), hj, hc, h.sh1, h.sh2, hrun.imp (fun ⟨h1, h2, h3⟩ => ⟨h1, h2, root_keep h3 hg⟩) id⟩

end Go.Proofs.Ytpchljiiappmnaa

/- The walk of the document's Build where the tokens are there; the conditions stand in the theorem. -/
namespace Go.Proofs.Ytpchljiiappmnaa
open Go Go.RowKit

def posP (s : S) (p : Tk × Bs) : Nat := pos s p.2
theorem trim_isE {x : S} {l : Bs} (h : x.data.toList = trimB l) : x.toList.isEmpty = (trimB l).isEmpty := by
  rw [empty_data, ← size_data, h]
  cases trimB l <;> simp

set_option maxRecDepth 100000 in
set_option maxHeartbeats 16000000 in
theorem refBuild_ok (HE : ∀ (lo B : Nat) (lv : Value) (s : S) (acc : List (Tk × Bs)), lo ≤ B → acc.length ≤ 100000 → s.size ≤ 65536 → (∀ k (hk : k < acc.length), acc[k].1.text.length ≤ 2000000) → ElemAny lo B lv s acc)
    (s : S) (w : World) {acc : List (Tk × Bs)} {r : Bs} (hs : s.size ≤ 65536) (h : allR s.data.toList = .ok acc r) :
    Calls Try.prog 34 #[.string s] w (RBuildOut s w (runB st0 acc)) := by
  have HA : Hid (∀ W : World, Calls Try.prog 21 #[.string s] W (RAllOut s W (.ok acc r))) := fun W => by rw [← h]; exact rall_any s W hs
  obtain ⟨hlen, htx, hkd⟩ := toks_small h (by rw [size_data]; exact hs)
  have HTX := Lib.hid htx
  have HKD := Lib.hid hkd
  have HEL := Lib.hid HE
  clear h htx hkd HE
  go_enter Try.func34, Try.ntmps34
  go_wp2_with fail
  refine Calls.world ?_
  intro W hW
  have x0 : Box W w.heap.size [.string ⟨#[]⟩, .slice none 0 0, .slice none 0 0, .string ⟨#[]⟩] := by rw [hW]; exact Box.new w _ _ _ rfl
  have hB : Below w.heap.size w W := by rw [hW]; exact (Below.refl _ w).alloc (Nat.le_refl _) _
  have hWs : W.heap.size = w.heap.size + 1 := by rw [hW]; simp
  clear hW
  refine (HA.out W).mono ?_
  rintro e w1 ⟨ov, L, rfl, hT, hb⟩
  have HT : Hid (∀ B, w1.heap.size ≤ B → TokAt (w.heap.size + 1) B w1 s ov acc) := fun B hB => TokAt.of hT (by omega) hB
  obtain ⟨ao, cap, hov⟩ := (HT.out _ (Nat.le_refl _)).1
  subst hov
  have y0 := x0.below hb x0.lt
  have hB1 := hB.trans (hb.mono hB.size)
  have hw1 : w.heap.size + 1 ≤ w1.heap.size := y0.lt
  have HY0 := Lib.hid y0
  have HB1 := Lib.hid hB1
  clear x0 hB hb y0 hB1 hT HA hWs
  go_wp2
  refine wp_world ?_
  intro W2 hW2
  have hL : LB s (.slice ao acc.length cap) acc w W2 w1.heap.size 0 0 none (.string ⟨#[]⟩) (.slice none 0 0) (.slice none 0 0) (.string ⟨#[]⟩) 0 0 := by
    rw [hW2]
    exact ⟨(Box.new w1 _ _ _ rfl).alloc _, (HY0.out.alloc _).alloc _, Box.new _ _ _ _ (by simp), (HB1.out.alloc HB1.out.size _).alloc (by simp; have := HB1.out.size; omega) _, Nat.zero_le _, Nat.le_refl _, ⟨_, _, _, rfl⟩, ⟨_, _, _, rfl⟩, .inl ⟨rfl, rfl, by simp⟩⟩
  have hT2 : TokAt (w.heap.size + 1) w1.heap.size W2 s (.slice ao acc.length cap) acc := (HT.out _ (Nat.le_refl _)).below (by rw [hW2]; exact ((Below.refl _ w1).alloc (Nat.le_refl _) _).alloc (by simp) _)
  have HL0 := Lib.hid hL
  have HT2 := Lib.hid hT2
  clear hL hT2 hW2 HY0 HB1 HT
  generalize w1.heap.size = b1 at *
  go_loopw [10, 11] (fun fv _ wr => ∃ (j c : Nat) (rt : Option Tr) (n0 n1 n2 n3 : Value) (bad off : Int), fv = .bool rt.isSome ∧ Hid (LB s (.slice ao acc.length cap) acc w wr b1 j c rt n0 n1 n2 n3 bad off ∧ Below b1 W2 wr)) (fun _ _ wr => acc.length - (placeOf wr b1).toNat)
  case atStart => exact ⟨0, 0, none, _, _, _, _, 0, 0, rfl, HL0.out, Below.refl _ _⟩
  case round =>
    obtain ⟨j, c, rt, n0, n1, n2, n3, bad, off, rfl, HL⟩ := hrel
    have r1 := HL.out.1.rb.cell 1 _ rfl
    have r3 := HL.out.1.rb.cell 3 _ rfl
    have rl := HL.out.1.rb.lt
    have HPO : Hid ((placeOf wr b1).toNat = j) := by show _ = _; unfold placeOf; rw [r1]; rfl
    by_cases hbad : bad = 0
    rotate_left
    · have hbb : (bad == 0) = false := beq_eq_false_iff_ne.2 hbad
      have hbn : (bad != 0) = true := by rw [bne, hbb]; rfl
      have hrun : ∃ q, runB st0 acc = .bad bad q ∧ off = (pos s q : Nat) := by
        rcases HL.out.1.run with ⟨h, -⟩ | ⟨-, q, h1, h2⟩
        · exact absurd h hbad
        · exact ⟨q, h1, h2⟩
      obtain ⟨q, hrun, hoff⟩ := hrun
      have HRUN := Lib.hid hrun
      have HOFF := Lib.hid hoff
      clear hrun hoff
      have hcs : (j : Int) < (acc.length : Int) ∨ ¬ (j : Int) < (acc.length : Int) := by omega
      rcases hcs with hcs | hcs
      all_goals
        have hR := HL.out.1.rb
        have hres := HL.out.1.res
        have hbel := HL.out.1.below
        have r3 := hR.cell 3 _ rfl
        have r4 := hR.cell 4 _ rfl
        have rl := hR.lt
        have p0 := hres.cell 0 _ rfl
        have pf0 := hres.free 0
        have p1 := hres.cell 1 _ rfl
        have pf1 := hres.free 1
        have p2 := hres.cell 2 _ rfl
        have pf2 := hres.free 2
        have p3 := hres.cell 3 _ rfl
        have pf3 := hres.free 3
        have pl := hres.lt
        have hst := resN_box hres (.string ⟨#[]⟩) (.slice none 0 0) (.slice none 0 0) (.string ⟨#[]⟩)
        have hbl := resN_below hbel (Nat.le_refl _) (.string ⟨#[]⟩) (.slice none 0 0) (.slice none 0 0) (.string ⟨#[]⟩)
        unfold resN at hst hbl
        have HST := Lib.hid hst
        have HBL := Lib.hid hbl
        have hne : b1 ≠ w.heap.size := by omega
        clear hR hres hbel hst hbl
        go_wp2
        go_region
        all_goals
          go_wp2
          obtain ⟨W3, hW3⟩ : ∃ W3, W3 = (resN wr w.heap.size (.string ⟨#[]⟩) (.slice none 0 0) (.slice none 0 0) (.string ⟨#[]⟩)).drew := ⟨_, rfl⟩
          unfold resN at hW3
          rw [← hW3]
          have z0 : Box W3 w.heap.size [.string ⟨#[]⟩, .slice none 0 0, .slice none 0 0, .string ⟨#[]⟩] := by rw [hW3]; exact HST.out.drew
          have hb3 : Below w.heap.size w W3 := by rw [hW3]; exact belowN HBL.out 1
          have d0 := z0.cell 0 _ rfl
          have d1 := z0.cell 1 _ rfl
          have d2 := z0.cell 2 _ rfl
          have d3 := z0.cell 3 _ rfl
          refine bodyPost_ret (v := .tuple #[noNode, .int .i64 bad, .int .i64 off]) (by simp [results, Try.results34, go_sem, d0, d1, d2, d3, noNode]) rfl ?_
          rw [HRUN.out]
          exact ⟨by rw [HOFF.out], hb3⟩
    · subst hbad
      have hrun : runB st0 acc = runB ⟨[], rt, c, false⟩ (acc.drop j) ∧ ∀ t, rt = some t → nodeV t n1 n2 = .agg #[n0, n1, n2, n3] ∧ NodeX (fun k => (b1 ≤ k ∨ k < w.heap.size + 1) ∧ k < b1 + 2) wr t n1 n2 := by
        rcases HL.out.1.run with ⟨-, h⟩ | ⟨h, -⟩
        · exact h
        · exact absurd rfl h
      have HRUN := Lib.hid hrun
      clear hrun
      by_cases hjl : j < acc.length
      rotate_left
      · have hjI : ¬ (j : Int) < (acc.length : Int) := by omega
        have hjd : acc.drop j = [] := List.drop_of_length_le (by have := HL.out.1.jl; omega)
        have HJD := Lib.hid hjd
        clear hjd
        cases rt with
        | none =>
          have HREF : Hid (Calls Try.prog 65 #[.pointer (some ⟨b1, 0, none⟩), .int .i64 16, .int .i64 s.size] wr fun en w' => en = .returned (.tuple #[]) ∧ RB w' b1 (.slice ao acc.length cap) j c 16 s.size ∧ wr.grownBy w' (some b1)) := refFail_any wr b1 _ _ _ _ 16 s.size HL.out.1.rb
          simp only [Option.isSome_none]
          go_wp2_with fail
          refine HREF.out.mono ?_
          rintro e W4 ⟨rfl, hR, hg4⟩
          have hres := HL.out.1.res.grownB hg4 (by omega)
          have hbel : Below w.heap.size w W4 := HL.out.1.below.trans ((below_grown hg4 (Nat.le_of_lt HL.out.1.rb.lt)).mono (by omega))
          clear hg4 r1 r3 rl HREF
          have r3 := hR.cell 3 _ rfl
          have r4 := hR.cell 4 _ rfl
          have rl := hR.lt
          have p0 := hres.cell 0 _ rfl
          have pf0 := hres.free 0
          have p1 := hres.cell 1 _ rfl
          have pf1 := hres.free 1
          have p2 := hres.cell 2 _ rfl
          have pf2 := hres.free 2
          have p3 := hres.cell 3 _ rfl
          have pf3 := hres.free 3
          have pl := hres.lt
          have hst := resN_box hres (.string ⟨#[]⟩) (.slice none 0 0) (.slice none 0 0) (.string ⟨#[]⟩)
          have hbl := resN_below hbel (Nat.le_refl _) (.string ⟨#[]⟩) (.slice none 0 0) (.slice none 0 0) (.string ⟨#[]⟩)
          unfold resN at hst hbl
          have HST := Lib.hid hst
          have HBL := Lib.hid hbl
          have hne : b1 ≠ w.heap.size := by omega
          clear hR hres hbel hst hbl
          go_wp2
          go_region
          all_goals
            go_wp2
            obtain ⟨W3, hW3⟩ : ∃ W3, W3 = (resN W4 w.heap.size (.string ⟨#[]⟩) (.slice none 0 0) (.slice none 0 0) (.string ⟨#[]⟩)).drew := ⟨_, rfl⟩
            unfold resN at hW3
            rw [← hW3]
            have z0 : Box W3 w.heap.size [.string ⟨#[]⟩, .slice none 0 0, .slice none 0 0, .string ⟨#[]⟩] := by rw [hW3]; exact HST.out.drew
            have hb3 : Below w.heap.size w W3 := by rw [hW3]; exact belowN HBL.out 1
            have d0 := z0.cell 0 _ rfl
            have d1 := z0.cell 1 _ rfl
            have d2 := z0.cell 2 _ rfl
            have d3 := z0.cell 3 _ rfl
            refine bodyPost_ret (v := .tuple #[noNode, .int .i64 16, .int .i64 s.size]) (by simp [results, Try.results34, go_sem, d0, d1, d2, d3, noNode]) rfl ?_
            rw [HRUN.out.1, HJD.out]
            exact ⟨by rw [pos_nil], hb3⟩
        | some t =>
          obtain ⟨hv, hnd⟩ := HRUN.out.2 t rfl
          have HV := Lib.hid hv
          have HND := Lib.hid hnd
          have hres := HL.out.1.res
          have hbel := HL.out.1.below
          have hroot := HL.out.1.root
          obtain ⟨s1a, s1b, s1c, h1⟩ := HL.out.1.sh1
          obtain ⟨s2a, s2b, s2c, h2⟩ := HL.out.1.sh2
          have HH1 := Lib.hid h1
          have HH2 := Lib.hid h2
          unfold nodeV at hv
          simp only [Value.agg.injEq, Array.mk.injEq, List.cons.injEq, and_true, true_and] at hv
          obtain ⟨hv0, hv3⟩ := hv
          have HV0 := Lib.hid hv0
          have HV3 := Lib.hid hv3
          rw [← hv0, h1, h2, ← hv3] at hroot
          simp only [Option.isSome_some]
          have p0 := hres.cell 0 _ rfl
          have pf0 := hres.free 0
          have p1 := hres.cell 1 _ rfl
          have pf1 := hres.free 1
          have p2 := hres.cell 2 _ rfl
          have pf2 := hres.free 2
          have p3 := hres.cell 3 _ rfl
          have pf3 := hres.free 3
          have pl := hres.lt
          have t0 := hroot.cell 0 _ rfl
          have t1 := hroot.cell 1 _ rfl
          have t2 := hroot.cell 2 _ rfl
          have t3 := hroot.cell 3 _ rfl
          have tl := hroot.lt
          have hst := resN_box hres (.string (bs t.name)) (.slice s1a s1b s1c) (.slice s2a s2b s2c) (.string (bs t.text))
          have hbl := resN_below hbel (Nat.le_refl _) (.string (bs t.name)) (.slice s1a s1b s1c) (.slice s2a s2b s2c) (.string (bs t.text))
          have hkp := resN_kept (W := wr) (X := fun k => (b1 ≤ k ∨ k < w.heap.size + 1) ∧ k < b1 + 2) (N := w.heap.size) ⟨.inr (Nat.lt_succ_self _), by omega⟩ (.string (bs t.name)) (.slice s1a s1b s1c) (.slice s2a s2b s2c) (.string (bs t.text))
          unfold resN at hst hbl hkp
          have HST := Lib.hid hst
          have HBL := Lib.hid hbl
          have HKP := Lib.hid hkp
          have hne : b1 + 1 ≠ w.heap.size := by omega
          clear hst hbl hkp hres hbel hroot hnd hv0 hv3 h1 h2
          go_wp2
          obtain ⟨W3, hW3⟩ : ∃ W3, W3 = resN wr w.heap.size (.string (bs t.name)) (.slice s1a s1b s1c) (.slice s2a s2b s2c) (.string (bs t.text)) := ⟨_, rfl⟩
          unfold resN at hW3
          rw [← hW3]
          have z0 : Box W3 w.heap.size [.string (bs t.name), .slice s1a s1b s1c, .slice s2a s2b s2c, .string (bs t.text)] := by rw [hW3]; exact HST.out
          have hb3 : Below w.heap.size w W3 := by rw [hW3]; exact HBL.out
          have hk3 : KeptX (fun k => (b1 ≤ k ∨ k < w.heap.size + 1) ∧ k < b1 + 2) wr W3 := by rw [hW3]; exact HKP.out
          have d0 := z0.cell 0 _ rfl
          have d1 := z0.cell 1 _ rfl
          have d2 := z0.cell 2 _ rfl
          have d3 := z0.cell 3 _ rfl
          refine bodyPost_ret (v := .tuple #[.agg #[.string (bs t.name), .slice s1a s1b s1c, .slice s2a s2b s2c, .string (bs t.text)], .int .i64 0, .int .i64 0]) (by simp [results, Try.results34, go_sem, d0, d1, d2, d3]) rfl ?_
          rw [HRUN.out.1, HJD.out]
          exact ⟨n1, n2, by rw [HH1.out, HH2.out]; rfl, (HND.out.keep hk3 (fun _ _ h => h)).node, hb3⟩
      · obtain ⟨g, oo, cap', kav, ee, hg', k0, k1, k2, k3, k4, k5, k6, ka⟩ := (HT2.out.below HL.out.2).2 j acc[j].1 acc[j].2 (List.getElem?_eq_getElem hjl)
        simp only [Value.slice.injEq, true_and] at ee
        obtain ⟨rfl, rfl⟩ := ee
        have hjI : (j : Int) < (acc.length : Int) := by omega
        have HDR : Hid (acc.drop j = acc[j] :: acc.drop (j + 1)) := List.drop_eq_getElem_cons hjl
        have hkdj := HKD.out j hjl
        have htxj := HTX.out j hjl
        obtain ⟨kta, ktc, hkav⟩ := ka.shape
        subst hkav
        have HTP : Hid (posP s acc[j] = pos s acc[j].2) := rfl
        have HSTP : Hid (∀ st', stepB ⟨[], rt, c, false⟩ acc[j].1 = .ok st' → runB st0 acc = runB st' (acc.drop (j + 1))) := fun st' h => by rw [HRUN.out.1, HDR.out]; simp only [runB, h]
        have HSTX : Hid (∀ x, stepB ⟨[], rt, c, false⟩ acc[j].1 = .bad x → runB st0 acc = .bad x acc[j].2) := fun x h => by rw [HRUN.out.1, HDR.out]; simp only [runB, h]
        have HEJ : Hid (∀ (W : World) (o' : Int), RB W b1 (.slice (some ⟨g, oo, none⟩) acc.length cap) j c 0 o' → TokAt (w.heap.size + 1) b1 W s (.slice (some ⟨g, oo, none⟩) acc.length cap) acc → (acc[j].1.kind = 1 ∨ acc[j].1.kind = 2) →
            Calls Try.prog 64 #[.pointer (some ⟨b1, 0, none⟩), .int .i64 0, .int .i64 s.size] W (ElemOut (w.heap.size + 1) b1 (.slice (some ⟨g, oo, none⟩) acc.length cap) s ⟨[], none, c, false⟩ j acc W)) := fun W o' h1 h2 h3 => HEL.out (w.heap.size + 1) b1 _ s acc (by omega) hlen hs HTX.out W ⟨[], none, c, false⟩ j o' hjl h1 h2 h3 rfl HL.out.1.cj
        clear ka
        generalize pos s acc[j].2 = Q at *
        generalize (lineCol (s.data.toList.take Q)).1 = kli at *
        generalize (lineCol (s.data.toList.take Q)).2 = kco at *
        generalize hacc : acc[j] = aj at *
        generalize aj.1 = k at *
        clear hacc
        have r0 := HL.out.1.rb.cell 0 _ rfl
        have hgr : g < wr.heap.size := by omega
        go_upto_region 9 with fail
        refine wp_world ?_
        intro W1 hW1
        have hab : Below wr.heap.size wr W1 := by rw [hW1]; exact (Below.refl _ _).alloc (Nat.le_refl _) _
        have xk : Box W1 wr.heap.size [.int .i64 k.kind, .string (bs k.name), .slice kta k.attrs.length ktc, .string (bs k.text), .int .i64 Q, .int .i64 kli, .int .i64 kco] := by rw [hW1]; exact Box.new wr _ _ _ rfl
        have hL1 := HL.out.1.later hab
        have hB1 : Below b1 W2 W1 := HL.out.2.trans (hab.mono (Nat.le_of_lt HL.out.1.rb.lt))
        have hroot1 := root_keep HRUN.out.2 (grownOf hab (some b1))
        have hrl := HL.out.1.root.lt
        have HROOT := Lib.hid hroot1
        have HL1 := Lib.hid hL1
        have HB1 := Lib.hid hB1
        have HXK := Lib.hid xk
        have q0 := xk.cell 0 _ rfl
        have q3 := xk.cell 3 _ rfl
        have q4 := xk.cell 4 _ rfl
        have ql := xk.lt
        clear hW1 hab xk hL1 hB1 hroot1 r0 r1 r3 rl hgr k0 k1 k2 k3 k4 k5 k6
        generalize wr.heap.size = kb at *
        have rl := HL1.out.rb.lt
        have r1 := HL1.out.rb.cell 1 _ rfl
        have rf1 := HL1.out.rb.free 1
        have hjj : IntKind.i64.wrap ((j : Int) + 1) = (j : Int) + 1 := IntWalk.i64_in _ (by omega)
        have HREF := Lib.hid (refFail_any W1 b1 _ _ _ _ 16 Q HL1.out.rb)
        have hcj := HL1.out.cj
        have HOKE : Hid (stepB ⟨[], rt, c, false⟩ k = .ok ⟨[], rt, c, false⟩ → LB s (.slice (some ⟨g, oo, none⟩) acc.length cap) acc w (W1.setCell ⟨b1, 1, none⟩ (.int .i64 ((j : Int) + 1))) b1 (j + 1) c rt n0 n1 n2 n3 0 off ∧ Below b1 W2 (W1.setCell ⟨b1, 1, none⟩ (.int .i64 ((j : Int) + 1)))) := fun h =>
          ⟨HL1.out.step (by omega) (setCell_grown _ _ _ _) (by simpa using HL1.out.rb.set 1 (.int .i64 ((j : Int) + 1))) (by omega) (by omega) (.inl ⟨rfl, HSTP.out _ h, HROOT.out⟩), below_set HB1.out b1 1 _ (Nat.le_refl _)⟩
        have HBADE : Hid (∀ W4, RB W4 b1 (.slice (some ⟨g, oo, none⟩) acc.length cap) j c 16 Q → W1.grownBy W4 (some b1) → stepB ⟨[], rt, c, false⟩ k = .bad 16 → LB s (.slice (some ⟨g, oo, none⟩) acc.length cap) acc w (W4.setCell ⟨b1, 1, none⟩ (.int .i64 ((j : Int) + 1))) b1 (j + 1) c rt n0 n1 n2 n3 16 Q ∧ Below b1 W2 (W4.setCell ⟨b1, 1, none⟩ (.int .i64 ((j : Int) + 1)))) := fun W4 hR hg h =>
          ⟨HL1.out.step (by omega) (hg.trans (setCell_grown _ _ _ _)) (by simpa using hR.set 1 (.int .i64 ((j : Int) + 1))) (by omega) (by omega) (.inr ⟨by decide, aj.2, HSTX.out _ h, by rw [show pos s aj.2 = Q from HTP.out]⟩), below_set (HB1.out.trans (below_grown hg (Nat.le_of_lt rl))) b1 1 _ (Nat.le_refl _)⟩
        have HPN : Hid (∀ (W : World) (i' : Nat) (v2 v3 v4 : Value), Box W b1 [.slice (some ⟨g, oo, none⟩) acc.length cap, .int .i64 i', v2, v3, v4] → (placeOf W b1).toNat = i') := fun W i' v2 v3 v4 h => by
          have h2 : placeOf W b1 = ((i' : Nat) : Int) := by unfold placeOf; rw [h.cell 1 _ rfl]
          rw [h2]; rfl
        rcases hkdj with e | e | e | e | e | e
        · have e1 : (k.kind == 1) = true := by rw [e]; rfl
          have e2 : (k.kind == 2) = false := by rw [e]; rfl
          have e4 : (k.kind == 4) = false := by rw [e]; rfl
          have e5 : (k.kind == 5) = false := by rw [e]; rfl
          have e6 : (k.kind == 6) = false := by rw [e]; rfl
          cases rt with
          | some tt =>
            simp only [Option.isSome_some]
            have hstep : stepB ⟨[], some tt, c, false⟩ k = .bad 16 := by
              unfold stepB
              rw [if_neg (by rw [e]; decide), if_pos e]
              rfl
            have HSTEP := Lib.hid hstep
            clear hstep
            go_wp2_with fail
            refine HREF.out.mono ?_
            rintro e9 W4 ⟨rfl, hR, hg4⟩
            have hnew := HBADE.out W4 hR hg4 HSTEP.out
            have r1' := hR.cell 1 _ rfl
            have rf1' := hR.free 1
            have rl' := hR.lt
            have HPQ := Lib.hid (HPN.out _ _ _ _ _ hnew.1.rb)
            have HNEW := Lib.hid hnew
            clear hnew hR hg4 HREF r1 rf1 rl
            go_wp2
            go_roundw
            case rel => exact ⟨j + 1, c, some tt, n0, n1, n2, n3, 16, Q, rfl, HNEW.out⟩
            case measure => rw [HPQ.out, HPO.out]; omega
          | none =>
            have HC := Lib.hid (HEJ.out W1 off HL1.out.rb (HT2.out.below HB1.out) (.inl e))
            simp only [Option.isSome_none]
            go_wp2_with fail
            refine HC.out.mono ?_
            rintro e9 w9 ⟨t9, av9, kv9, rfl, hn9, hg9, hp9⟩
            obtain ⟨a1, a2, a3, ha⟩ : ∃ a b c, av9 = .slice a b c := by obtain ⟨a, b, e⟩ := hn9.att.shape; exact ⟨_, _, _, e⟩
            obtain ⟨c1, c2, c3, hc9⟩ : ∃ a b c, kv9 = .slice a b c := by obtain ⟨a, b, e, -⟩ := hn9.kid; exact ⟨_, _, _, e⟩
            subst ha hc9
            have hroot := HL1.out.root.grownB hg9 (by omega)
            have HN9 := Lib.hid hn9
            have HG9 := Lib.hid hg9
            have HP9 := Lib.hid hp9
            have s0 := hroot.cell 0 _ rfl
            have s1 := hroot.cell 1 _ rfl
            have s2 := hroot.cell 2 _ rfl
            have s3 := hroot.cell 3 _ rfl
            have sf0 := hroot.free 0
            have sf1 := hroot.free 1
            have sf2 := hroot.free 2
            have sf3 := hroot.free 3
            have sl := hroot.lt
            have hsz : b1 + 1 < W1.heap.size := HL1.out.root.lt
            have HNEW : Hid (∃ (j' c' : Nat) (bad' off' : Int), j < j' ∧ j' ≤ acc.length ∧ LB s (.slice (some ⟨g, oo, none⟩) acc.length cap) acc w (resN w9 (b1 + 1) (.string (bs t9.name)) (.slice a1 a2 a3) (.slice c1 c2 c3) (.string (bs t9.text))) b1 j' c' (some t9) (.string (bs t9.name)) (.slice a1 a2 a3) (.slice c1 c2 c3) (.string (bs t9.text)) bad' off' ∧ Below b1 W2 (resN w9 (b1 + 1) (.string (bs t9.name)) (.slice a1 a2 a3) (.slice c1 c2 c3) (.string (bs t9.text)))) := by
              have hgr := resN_grown (W := w9) (N := b1 + 1) (.string (bs t9.name)) (.slice a1 a2 a3) (.slice c1 c2 c3) (.string (bs t9.text))
              have hkp := resN_kept (W := w9) (X := fun k => (b1 ≤ k ∨ k < w.heap.size + 1) ∧ k < W1.heap.size) (N := b1 + 1) ⟨.inl (by omega), hsz⟩ (.string (bs t9.name)) (.slice a1 a2 a3) (.slice c1 c2 c3) (.string (bs t9.text))
              have hres := (HL1.out.res.grownB HG9.out (by omega)).grownB hgr (by omega)
              have hrt := resN_box hroot (.string (bs t9.name)) (.slice a1 a2 a3) (.slice c1 c2 c3) (.string (bs t9.text))
              have hb9 : Below b1 W1 w9 := below_grown HG9.out (Nat.le_of_lt HL1.out.rb.lt)
              have hb10 : Below b1 W1 (resN w9 (b1 + 1) (.string (bs t9.name)) (.slice a1 a2 a3) (.slice c1 c2 c3) (.string (bs t9.text))) := resN_below hb9 (by omega) _ _ _ _
              have hbw := HL1.out.below.trans (hb10.mono (by omega))
              have hb2 := HB1.out.trans hb10
              rcases HP9.out with ⟨x, r9, i', c', hx, h1, h2, h3, h4, h5⟩ | ⟨f', i', c', o', h0, h1, h2, h3, h4, h5⟩
              · exact ⟨i', c', x, _, h1, h2, ⟨h5.grownB hgr (by omega), hres, hrt, hbw, h2, h3, ⟨_, _, _, rfl⟩, ⟨_, _, _, rfl⟩, .inr ⟨hx, r9, by rw [HRUN.out.1]; exact h4, rfl⟩⟩, hb2⟩
              · refine ⟨i', c', 0, _, h1, h2, ⟨h4.grownB hgr (by omega), hres, hrt, hbw, h2, h3, ⟨_, _, _, rfl⟩, ⟨_, _, _, rfl⟩, .inl ⟨rfl, by rw [HRUN.out.1, h5, h0]; rfl, fun t8 ht8 => ?_⟩⟩, hb2⟩
                cases ht8
                exact ⟨rfl, HN9.out.keep hkp (fun k _ h => ⟨h.1, by omega⟩)⟩
            clear hroot hn9 hg9 hp9 HREF
            unfold nodeV
            unfold resN at HNEW
            obtain ⟨j', c', bad', off', hj1, hj2, hnew⟩ := HNEW.out
            have HPQ := Lib.hid (HPN.out _ _ _ _ _ hnew.1.rb)
            have HNEW2 := Lib.hid hnew
            clear hnew HNEW
            go_wp2
            go_roundw
            case rel => exact ⟨j', c', some t9, _, _, _, _, bad', off', rfl, HNEW2.out⟩
            case measure => rw [HPQ.out, HPO.out]; omega
        · have e1 : (k.kind == 1) = false := by rw [e]; rfl
          have e2 : (k.kind == 2) = true := by rw [e]; rfl
          have e4 : (k.kind == 4) = false := by rw [e]; rfl
          have e5 : (k.kind == 5) = false := by rw [e]; rfl
          have e6 : (k.kind == 6) = false := by rw [e]; rfl
          cases rt with
          | some tt =>
            simp only [Option.isSome_some]
            have hstep : stepB ⟨[], some tt, c, false⟩ k = .bad 16 := by
              unfold stepB
              rw [if_neg (by rw [e]; decide), if_neg (by rw [e]; decide), if_pos e]
              rfl
            have HSTEP := Lib.hid hstep
            clear hstep
            go_wp2_with fail
            refine HREF.out.mono ?_
            rintro e9 W4 ⟨rfl, hR, hg4⟩
            have hnew := HBADE.out W4 hR hg4 HSTEP.out
            have r1' := hR.cell 1 _ rfl
            have rf1' := hR.free 1
            have rl' := hR.lt
            have HPQ := Lib.hid (HPN.out _ _ _ _ _ hnew.1.rb)
            have HNEW := Lib.hid hnew
            clear hnew hR hg4 HREF r1 rf1 rl
            go_wp2
            go_roundw
            case rel => exact ⟨j + 1, c, some tt, n0, n1, n2, n3, 16, Q, rfl, HNEW.out⟩
            case measure => rw [HPQ.out, HPO.out]; omega
          | none =>
            have HC := Lib.hid (HEJ.out W1 off HL1.out.rb (HT2.out.below HB1.out) (.inr e))
            simp only [Option.isSome_none]
            go_wp2_with fail
            refine HC.out.mono ?_
            rintro e9 w9 ⟨t9, av9, kv9, rfl, hn9, hg9, hp9⟩
            obtain ⟨a1, a2, a3, ha⟩ : ∃ a b c, av9 = .slice a b c := by obtain ⟨a, b, e⟩ := hn9.att.shape; exact ⟨_, _, _, e⟩
            obtain ⟨c1, c2, c3, hc9⟩ : ∃ a b c, kv9 = .slice a b c := by obtain ⟨a, b, e, -⟩ := hn9.kid; exact ⟨_, _, _, e⟩
            subst ha hc9
            have hroot := HL1.out.root.grownB hg9 (by omega)
            have HN9 := Lib.hid hn9
            have HG9 := Lib.hid hg9
            have HP9 := Lib.hid hp9
            have s0 := hroot.cell 0 _ rfl
            have s1 := hroot.cell 1 _ rfl
            have s2 := hroot.cell 2 _ rfl
            have s3 := hroot.cell 3 _ rfl
            have sf0 := hroot.free 0
            have sf1 := hroot.free 1
            have sf2 := hroot.free 2
            have sf3 := hroot.free 3
            have sl := hroot.lt
            have hsz : b1 + 1 < W1.heap.size := HL1.out.root.lt
            have HNEW : Hid (∃ (j' c' : Nat) (bad' off' : Int), j < j' ∧ j' ≤ acc.length ∧ LB s (.slice (some ⟨g, oo, none⟩) acc.length cap) acc w (resN w9 (b1 + 1) (.string (bs t9.name)) (.slice a1 a2 a3) (.slice c1 c2 c3) (.string (bs t9.text))) b1 j' c' (some t9) (.string (bs t9.name)) (.slice a1 a2 a3) (.slice c1 c2 c3) (.string (bs t9.text)) bad' off' ∧ Below b1 W2 (resN w9 (b1 + 1) (.string (bs t9.name)) (.slice a1 a2 a3) (.slice c1 c2 c3) (.string (bs t9.text)))) := by
              have hgr := resN_grown (W := w9) (N := b1 + 1) (.string (bs t9.name)) (.slice a1 a2 a3) (.slice c1 c2 c3) (.string (bs t9.text))
              have hkp := resN_kept (W := w9) (X := fun k => (b1 ≤ k ∨ k < w.heap.size + 1) ∧ k < W1.heap.size) (N := b1 + 1) ⟨.inl (by omega), hsz⟩ (.string (bs t9.name)) (.slice a1 a2 a3) (.slice c1 c2 c3) (.string (bs t9.text))
              have hres := (HL1.out.res.grownB HG9.out (by omega)).grownB hgr (by omega)
              have hrt := resN_box hroot (.string (bs t9.name)) (.slice a1 a2 a3) (.slice c1 c2 c3) (.string (bs t9.text))
              have hb9 : Below b1 W1 w9 := below_grown HG9.out (Nat.le_of_lt HL1.out.rb.lt)
              have hb10 : Below b1 W1 (resN w9 (b1 + 1) (.string (bs t9.name)) (.slice a1 a2 a3) (.slice c1 c2 c3) (.string (bs t9.text))) := resN_below hb9 (by omega) _ _ _ _
              have hbw := HL1.out.below.trans (hb10.mono (by omega))
              have hb2 := HB1.out.trans hb10
              rcases HP9.out with ⟨x, r9, i', c', hx, h1, h2, h3, h4, h5⟩ | ⟨f', i', c', o', h0, h1, h2, h3, h4, h5⟩
              · exact ⟨i', c', x, _, h1, h2, ⟨h5.grownB hgr (by omega), hres, hrt, hbw, h2, h3, ⟨_, _, _, rfl⟩, ⟨_, _, _, rfl⟩, .inr ⟨hx, r9, by rw [HRUN.out.1]; exact h4, rfl⟩⟩, hb2⟩
              · refine ⟨i', c', 0, _, h1, h2, ⟨h4.grownB hgr (by omega), hres, hrt, hbw, h2, h3, ⟨_, _, _, rfl⟩, ⟨_, _, _, rfl⟩, .inl ⟨rfl, by rw [HRUN.out.1, h5, h0]; rfl, fun t8 ht8 => ?_⟩⟩, hb2⟩
                cases ht8
                exact ⟨rfl, HN9.out.keep hkp (fun k _ h => ⟨h.1, by omega⟩)⟩
            clear hroot hn9 hg9 hp9 HREF
            unfold nodeV
            unfold resN at HNEW
            obtain ⟨j', c', bad', off', hj1, hj2, hnew⟩ := HNEW.out
            have HPQ := Lib.hid (HPN.out _ _ _ _ _ hnew.1.rb)
            have HNEW2 := Lib.hid hnew
            clear hnew HNEW
            go_wp2
            go_roundw
            case rel => exact ⟨j', c', some t9, _, _, _, _, bad', off', rfl, HNEW2.out⟩
            case measure => rw [HPQ.out, HPO.out]; omega
        · have e1 : (k.kind == 1) = false := by rw [e]; rfl
          have e2 : (k.kind == 2) = false := by rw [e]; rfl
          have e4 : (k.kind == 4) = false := by rw [e]; rfl
          have e5 : (k.kind == 5) = false := by rw [e]; rfl
          have e6 : (k.kind == 6) = false := by rw [e]; rfl
          have hstep : stepB ⟨[], rt, c, false⟩ k = .bad 16 := by
            unfold stepB
            rw [if_neg (by rw [e]; decide), if_neg (by rw [e]; decide), if_neg (by rw [e]; decide), if_pos e]
            rfl
          have HSTEP := Lib.hid hstep
          clear hstep
          go_wp2_with fail
          refine HREF.out.mono ?_
          rintro e9 W4 ⟨rfl, hR, hg4⟩
          have hnew := HBADE.out W4 hR hg4 HSTEP.out
          have r1' := hR.cell 1 _ rfl
          have rf1' := hR.free 1
          have rl' := hR.lt
          have HPQ := Lib.hid (HPN.out _ _ _ _ _ hnew.1.rb)
          have HNEW := Lib.hid hnew
          clear hnew hR hg4 HREF r1 rf1 rl
          go_wp2
          go_roundw
          case rel => exact ⟨j + 1, c, rt, n0, n1, n2, n3, 16, Q, rfl, HNEW.out⟩
          case measure => rw [HPQ.out, HPO.out]; omega
        · have e1 : (k.kind == 1) = false := by rw [e]; rfl
          have e2 : (k.kind == 2) = false := by rw [e]; rfl
          have e4 : (k.kind == 4) = true := by rw [e]; rfl
          have e5 : (k.kind == 5) = false := by rw [e]; rfl
          have e6 : (k.kind == 6) = false := by rw [e]; rfl
          have hst4 : stepB ⟨[], rt, c, false⟩ k = if (trimB k.text).isEmpty then .ok ⟨[], rt, c, false⟩ else .bad 16 := by
            unfold stepB
            rw [if_pos e]
            rfl
          have HST4 := Lib.hid hst4
          clear hst4
          have HTR : Hid (∀ W, Calls Try.prog 45 #[.string (bs k.text)] W fun e w' => ∃ x : S, e = .returned (.string x) ∧ x.toList.isEmpty = (trimB k.text).isEmpty ∧ W = w') := fun W => (refTrim_any (bs k.text) W (by rw [bs_size]; omega)).mono fun e w' ⟨x, h1, h2, h3⟩ => ⟨x, h1, trim_isE (by rw [h2, bs_data]), h3⟩
          go_wp2_with fail
          refine (HTR.out W1).mono ?_
          rintro e8 W4 ⟨x, rfl, hx, rfl⟩
          cases hT : (trimB k.text).isEmpty with
          | true =>
            rw [hT] at hx
            have hstep : stepB ⟨[], rt, c, false⟩ k = .ok ⟨[], rt, c, false⟩ := by
              rw [HST4.out, if_pos hT]
            have hnew := HOKE.out hstep
            have HPQ := Lib.hid (HPN.out _ _ _ _ _ hnew.1.rb)
            have HNEW := Lib.hid hnew
            clear hnew hstep HREF
            go_wp2
            go_roundw
            case rel => exact ⟨j + 1, c, rt, n0, n1, n2, n3, 0, off, rfl, HNEW.out⟩
            case measure => rw [HPQ.out, HPO.out]; omega
          | false =>
            rw [hT] at hx
            have hstep : stepB ⟨[], rt, c, false⟩ k = .bad 16 := by
              rw [HST4.out, if_neg (by rw [hT]; simp)]
            have HSTEP := Lib.hid hstep
            clear hstep
            go_wp2_with fail
            refine HREF.out.mono ?_
            rintro e9 W4 ⟨rfl, hR, hg4⟩
            have hnew := HBADE.out W4 hR hg4 HSTEP.out
            have r1' := hR.cell 1 _ rfl
            have rf1' := hR.free 1
            have rl' := hR.lt
            have HPQ := Lib.hid (HPN.out _ _ _ _ _ hnew.1.rb)
            have HNEW := Lib.hid hnew
            clear hnew hR hg4 HREF r1 rf1 rl
            go_wp2
            go_roundw
            case rel => exact ⟨j + 1, c, rt, n0, n1, n2, n3, 16, Q, rfl, HNEW.out⟩
            case measure => rw [HPQ.out, HPO.out]; omega
        · have e1 : (k.kind == 1) = false := by rw [e]; rfl
          have e2 : (k.kind == 2) = false := by rw [e]; rfl
          have e4 : (k.kind == 4) = false := by rw [e]; rfl
          have e5 : (k.kind == 5) = true := by rw [e]; rfl
          have e6 : (k.kind == 6) = false := by rw [e]; rfl
          have hstep : stepB ⟨[], rt, c, false⟩ k = .ok ⟨[], rt, c, false⟩ := by
            unfold stepB
            rw [if_neg (by rw [e]; decide), if_neg (by rw [e]; decide), if_neg (by rw [e]; decide), if_neg (by rw [e]; decide)]
          have hnew := HOKE.out hstep
          have HPQ := Lib.hid (HPN.out _ _ _ _ _ hnew.1.rb)
          have HNEW := Lib.hid hnew
          clear hnew hstep HREF
          go_wp2
          go_roundw
          case rel => exact ⟨j + 1, c, rt, n0, n1, n2, n3, 0, off, rfl, HNEW.out⟩
          case measure => rw [HPQ.out, HPO.out]; omega
        · have e1 : (k.kind == 1) = false := by rw [e]; rfl
          have e2 : (k.kind == 2) = false := by rw [e]; rfl
          have e4 : (k.kind == 4) = false := by rw [e]; rfl
          have e5 : (k.kind == 5) = false := by rw [e]; rfl
          have e6 : (k.kind == 6) = true := by rw [e]; rfl
          have hstep : stepB ⟨[], rt, c, false⟩ k = .ok ⟨[], rt, c, false⟩ := by
            unfold stepB
            rw [if_neg (by rw [e]; decide), if_neg (by rw [e]; decide), if_neg (by rw [e]; decide), if_neg (by rw [e]; decide)]
          have hnew := HOKE.out hstep
          have HPQ := Lib.hid (HPN.out _ _ _ _ _ hnew.1.rb)
          have HNEW := Lib.hid hnew
          clear hnew hstep HREF
          go_wp2
          go_roundw
          case rel => exact ⟨j + 1, c, rt, n0, n1, n2, n3, 0, off, rfl, HNEW.out⟩
          case measure => rw [HPQ.out, HPO.out]; omega

end Go.Proofs.Ytpchljiiappmnaa
