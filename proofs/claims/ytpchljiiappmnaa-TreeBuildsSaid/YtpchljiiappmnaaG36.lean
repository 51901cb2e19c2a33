/- The law TreeBuilds, walked, out of the contract of the document's Build; the conditions stand in the theorem. -/
import Derived.Test.YtpchljiiappmnaaG35
import Derived.Test.YtpchljiiappmnaaG23
import Derived.Test.YtpchljiiappmnaaG33
import Derived.Test.YtpchljiiappmnaaG30
namespace Go.Proofs.Ytpchljiiappmnaa
open Go Go.RowKit

set_option maxHeartbeats 1000000 in
theorem cut3_any (s : S) (w : World) : Calls Try.prog 32 #[.string s] w fun e w' => e = .returned (.string (cutS s)) ∧ w = w' := by
  by_cases h : 2000 < s.size
  · have hi : (2000 : Int) < (s.size : Int) := by omega
    have h2 : 2000 ≤ s.size := by omega
    have HE : Hid (cutS s = s.extract 0 2000) := by show _ = _; unfold cutS; rw [if_pos h]
    clear h
    go_enter Try.func32, Try.ntmps32
    go_wp2
    go_ret
    exact ⟨by rw [HE.out]; rfl, rfl⟩
  · have hi : ¬ (2000 : Int) < (s.size : Int) := by omega
    have HE : Hid (cutS s = s) := by show _ = _; unfold cutS; rw [if_neg h]
    clear h
    go_enter Try.func32, Try.ntmps32
    go_wp2
    go_ret
    exact ⟨by rw [HE.out]; rfl, rfl⟩

theorem runB_bad_ne : ∀ (l : List (Tk × Bs)) (st : BSt) {x : Int} {r : Bs}, runB st l = .bad x r → x ≠ 0
  | [], st, x, r, h => by
    simp only [runB] at h
    split at h
    · cases h; decide
    · split at h
      · cases h
      · cases h; decide
  | (t, q) :: l, st, x, r, h => by
    simp only [runB] at h
    split at h
    · exact runB_bad_ne l _ h
    · rename_i e he
      cases h
      exact stepB_bad he
theorem buildR_bad_ne {T : Bs} {x : Int} {r : Bs} (h : buildR T = .bad x r) : x ≠ 0 := by
  unfold buildR at h
  split at h
  · exact runB_bad_ne _ _ h
  · rename_i e q hq
    cases h
    exact allR_bad_ne hq
theorem eqg_place3 : Try.prog.eqGuardType Try.prog.depth 26 = false := by kernel_rfl
theorem eqs_place3 : Try.prog.stoodInHeld 26 = false := by kernel_rfl
theorem eql_place3 (a b c : Int) (w : World) : (binOp .eql 26 (.agg #[.int .i64 a, .int .i64 b, .int .i64 c]) (.agg #[.int .i64 a, .int .i64 b, .int .i64 c])).run Try.prog w = .ok (.bool true) w := by
  have h := eqs_place3
  simp [go_sem, h]
theorem noNode_of (w : World) : NodeOf w (.mk [] [] [] []) (.slice none 0 0) (.slice none 0 0) := .mk [] SliceX.nil rfl SliceX.nil (by simp)

attribute [local go_sem ↓] eqg_place3 eql_place3 in
set_option maxRecDepth 100000 in
set_option maxHeartbeats 8000000 in
theorem treeBuilds_any (HB : ∀ (s : S) (w : World), s.size ≤ 65536 → Calls Try.prog 34 #[.string s] w (RBuildOut s w (buildR s.data.toList))) (s : S) (m : Int) (w : World) (hm : w.cell? ⟨0, 0, none⟩ = some (.int .i64 m)) :
    Calls Try.prog 11 #[.string s] w fun e w' => e = .returned (.bool true) ∧ Below w.heap.size w w' := by
  have hw0 : 0 < w.heap.size := World.block_lt_of_cell? w _ hm
  have hcs := cutS_size s
  have HCU := Lib.hid (cut3_any s)
  generalize cutS s = T at *
  have hbu := build_any T m w (by omega) hm
  have hrb := fun W => HB T W (by omega)
  have HLV : Hid (∀ W, W.cell? ⟨0, 0, none⟩ = some (.int .i64 m) → Calls Try.prog 36 #[] W fun e w' => e = .returned (.bool true) ∧ Below W.heap.size W w') := fun W h => treeLives_any m W h
  have HM := Lib.hid hm
  clear HB hm
  cases hR : buildR T.data.toList with
  | ok t r =>
    rw [hR] at hbu
    simp only [hR] at hrb
    have HBU := Lib.hid hbu
    have HRB := Lib.hid hrb
    clear hbu hrb hR
    go_enter Try.func11, Try.ntmps11
    go_wp2_with fail
    refine (HCU.out w).mono ?_
    rintro e w' ⟨rfl, rfl⟩
    go_wp2_with fail
    refine HBU.out.mono ?_
    rintro e w1 ⟨av, kv, rfl, hn, hb⟩
    obtain ⟨a1, a2, a3, ha⟩ : ∃ a b c, av = .slice a b c := by obtain ⟨a, b, e⟩ := hn.att.shape; exact ⟨_, _, _, e⟩
    obtain ⟨k1, k2, k3, hk⟩ : ∃ a b c, kv = .slice a b c := by obtain ⟨a, b, e, -⟩ := hn.kid; exact ⟨_, _, _, e⟩
    subst ha hk
    have HN := Lib.hid hn
    clear hn
    unfold nodeV zeroPlace
    have hB0 := hb
    go_wp2_with fail
    refine Calls.world ?_
    intro W1 hW1
    have x3 : Box W1 w1.heap.size [.string (bs t.name), .slice a1 a2 a3, .slice k1 k2 k3, .string (bs t.text)] := by rw [hW1]; exact (Box.new w1 _ _ _ rfl).alloc _
    have x5 : Box W1 (w1.heap.size + 1) [.int .i64 0, .int .i64 0, .int .i64 0] := by rw [hW1]; exact Box.new _ _ _ _ (by simp)
    have hb1 : Below w1.heap.size w1 W1 := by rw [hW1]; exact ((Below.refl _ _).alloc (Nat.le_refl _) _).alloc (by simp) _
    clear hW1
    have hB1 := hB0.trans (hb1.mono hB0.size)
    refine (HRB.out W1).mono ?_
    rintro e w2 ⟨av2, kv2, rfl, hn2, hb2⟩
    obtain ⟨c1, c2, c3, ha⟩ : ∃ a b c, av2 = .slice a b c := by obtain ⟨a, b, e⟩ := hn2.att.shape; exact ⟨_, _, _, e⟩
    obtain ⟨d1, d2, d3, hk⟩ : ∃ a b c, kv2 = .slice a b c := by obtain ⟨a, b, e, -⟩ := hn2.kid; exact ⟨_, _, _, e⟩
    subst ha hk
    have HN2 := Lib.hid hn2
    have HN1 := Lib.hid (HN.out.later (hb1.trans (hb2.mono hb1.size)))
    clear hn2
    unfold nodeV
    have x3' := x3.below hb2 x3.lt
    have x5' := x5.below hb2 x5.lt
    have hB2 := hB1.trans (hb2.mono hB1.size)
    have HX3 := Lib.hid x3'
    have HX5 := Lib.hid x5'
    have HB2 := Lib.hid hB2
    have u0 := x3'.cell 0 _ rfl
    have u1 := x3'.cell 1 _ rfl
    have u2 := x3'.cell 2 _ rfl
    have u3 := x3'.cell 3 _ rfl
    have ul := x3'.lt
    clear x3 x5 hb hb1 hb2 hB0 hB1 x3' x5' hB2
    go_wp2_with fail
    refine Calls.world ?_
    intro W2 hW2
    have hb3 : Below w2.heap.size w2 W2 := by rw [hW2]; exact (Below.refl _ _).alloc (Nat.le_refl _) _
    clear hW2
    have HSM := refSame_any _ t t W2 (.slice a1 a2 a3) (.slice k1 k2 k3) (.slice c1 c2 c3) (.slice d1 d2 d3) (Nat.le_refl _) (HN1.out.later hb3) (HN2.out.later hb3)
    unfold nodeV at HSM
    refine HSM.mono ?_
    rintro e w3 ⟨z, rfl, hz, hb4⟩
    obtain rfl : z = true := hz.2 rfl
    have hB3 := HB2.out.trans ((hb3.trans (hb4.mono hb3.size)).mono HB2.out.size)
    have x5 := (HX5.out.below hb3 HX5.out.lt).below hb4 (Nat.lt_of_lt_of_le HX5.out.lt hb3.size)
    have HB3 := Lib.hid hB3
    have q0 := x5.cell 0 _ rfl
    have q1 := x5.cell 1 _ rfl
    have q2 := x5.cell 2 _ rfl
    have ql := x5.lt
    clear hz hb3 hb4 hB3 x5 HSM u0 u1 u2 u3 ul
    go_wp2_with fail
    refine (HLV.out w3 ((HB3.out.cell (by exact hw0)).trans HM.out)).mono ?_
    rintro e w4 ⟨rfl, hb5⟩
    go_wp2
    go_ret
    exact ⟨rfl, HB3.out.trans (hb5.mono HB3.out.size)⟩
  | bad x r =>
    have hx0 : (x == 0) = false := beq_eq_false_iff_ne.2 (buildR_bad_ne hR)
    have hx1 : (x != x) = false := by simp
    rw [hR] at hbu
    simp only [hR] at hrb
    have HBU := Lib.hid hbu
    have HRB := Lib.hid hrb
    clear hbu hrb hR
    go_enter Try.func11, Try.ntmps11
    go_wp2_with fail
    refine (HCU.out w).mono ?_
    rintro e w' ⟨rfl, rfl⟩
    go_wp2_with fail
    refine HBU.out.mono ?_
    rintro e w1 ⟨rfl, hb⟩
    unfold noNode placeV
    have HPL : Hid (pos T r ≤ T.size) := by show _ ≤ _; unfold pos; rw [← size_data]; omega
    have HAT : Hid (∀ W, Calls Try.prog 24 #[.string T, .int .i64 (pos T r : Nat)] W fun e w' => e = .returned (.tuple #[.int .i64 (lineCol (T.data.toList.take (pos T r))).1, .int .i64 (lineCol (T.data.toList.take (pos T r))).2]) ∧ W = w') := fun W => refAt_any T (pos T r) W HPL.out (by omega)
    obtain ⟨P, hP⟩ : ∃ P, P = pos T r := ⟨_, rfl⟩
    have HPP := Lib.hid hP
    rw [← hP] at HAT ⊢
    clear hP
    generalize (lineCol (T.data.toList.take P)).1 = li at *
    generalize (lineCol (T.data.toList.take P)).2 = co at *
    have hB0 := hb
    go_wp2_with fail
    refine Calls.world ?_
    intro W1 hW1
    have x3 : Box W1 w1.heap.size [.string ⟨#[]⟩, .slice none 0 0, .slice none 0 0, .string ⟨#[]⟩] := by rw [hW1]; exact (Box.new w1 _ _ _ rfl).alloc _
    have x5 : Box W1 (w1.heap.size + 1) [.int .i64 P, .int .i64 li, .int .i64 co] := by rw [hW1]; exact Box.new _ _ _ _ (by simp)
    have hb1 : Below w1.heap.size w1 W1 := by rw [hW1]; exact ((Below.refl _ _).alloc (Nat.le_refl _) _).alloc (by simp) _
    clear hW1
    have hB1 := hB0.trans (hb1.mono hB0.size)
    refine (HRB.out W1).mono ?_
    rintro e w2 ⟨rfl, hb2⟩
    unfold noNode
    rw [← HPP.out]
    have x3' := x3.below hb2 x3.lt
    have x5' := x5.below hb2 x5.lt
    have hB2 := hB1.trans (hb2.mono hB1.size)
    have HX3 := Lib.hid x3'
    have HX5 := Lib.hid x5'
    have HB2 := Lib.hid hB2
    have u0 := x3'.cell 0 _ rfl
    have u1 := x3'.cell 1 _ rfl
    have u2 := x3'.cell 2 _ rfl
    have u3 := x3'.cell 3 _ rfl
    have ul := x3'.lt
    clear x3 x5 hb hb1 hb2 hB0 hB1 x3' x5' hB2
    go_wp2_with fail
    refine Calls.world ?_
    intro W2 hW2
    have hb3 : Below w2.heap.size w2 W2 := by rw [hW2]; exact (Below.refl _ _).alloc (Nat.le_refl _) _
    clear hW2
    have HSM := refSame_any _ (.mk [] [] [] []) (.mk [] [] [] []) W2 (.slice none 0 0) (.slice none 0 0) (.slice none 0 0) (.slice none 0 0) (Nat.le_refl _) (noNode_of W2) (noNode_of W2)
    unfold nodeV at HSM
    refine HSM.mono ?_
    rintro e w3 ⟨z, rfl, hz, hb4⟩
    obtain rfl : z = true := hz.2 rfl
    have hB3 := HB2.out.trans ((hb3.trans (hb4.mono hb3.size)).mono HB2.out.size)
    have x5 := (HX5.out.below hb3 HX5.out.lt).below hb4 (Nat.lt_of_lt_of_le HX5.out.lt hb3.size)
    have HB3 := Lib.hid hB3
    have q0 := x5.cell 0 _ rfl
    have q1 := x5.cell 1 _ rfl
    have q2 := x5.cell 2 _ rfl
    have ql := x5.lt
    clear hz hb3 hb4 hB3 x5 HSM u0 u1 u2 u3 ul
    go_wp2_with fail
    refine (HAT.out w3).mono ?_
    rintro e w' ⟨rfl, rfl⟩
    go_wp2_with fail
    refine (HLV.out w3 ((HB3.out.cell (by exact hw0)).trans HM.out)).mono ?_
    rintro e w4 ⟨rfl, hb5⟩
    go_wp2
    go_ret
    exact ⟨rfl, HB3.out.trans (hb5.mono HB3.out.size)⟩

end Go.Proofs.Ytpchljiiappmnaa

/- The document's Build at every text, and the law TreeBuilds; the conditions stand in the theorems. -/
namespace Go.Proofs.Ytpchljiiappmnaa
open Go Go.RowKit

theorem elem_at (lo B : Nat) (ao : Option Addr) (cap : Nat) (s : S) (acc : List (Tk × Bs)) (hlen : acc.length ≤ 100000) (hs : s.size ≤ 65536) (htx : ∀ k (hk : k < acc.length), acc[k].1.text.length ≤ 2000000) :
    ∀ (n j : Nat), acc.length - j ≤ n → ∀ (w : World) (st : BSt) (o : Int) (hj : j < acc.length), RB w B (.slice ao acc.length cap) j st.count 0 o → TokAt lo B w s (.slice ao acc.length cap) acc → (acc[j].1.kind = 1 ∨ acc[j].1.kind = 2) → st.root = none → st.count ≤ j →
      Calls Try.prog 64 #[.pointer (some ⟨B, 0, none⟩), .int .i64 st.stack.length, .int .i64 s.size] w (ElemOut lo B (.slice ao acc.length cap) s st j acc w)
  | 0, j, hn, w, st, o, hj, _, _, _, _, _ => by omega
  | n + 1, j, hn, w, st, o, hj, h1, h2, h3, h4, h5 => by
    by_cases hb : 64 ≤ st.stack.length ∨ 4096 < st.count + 1
    · exact element_big B s ao cap acc w st j o h1 h2 hj h3 h4 h5 hlen hb
    · exact element_go B s ao cap acc w st j o h1 h2 hj h3 h4 h5 hlen hs htx (fun e => hb (.inl e)) (fun e => hb (.inr e)) (fun w' st' j' o' hjj hj' g1 g2 g3 g4 g5 => elem_at lo B ao cap s acc hlen hs htx n j' (by omega) w' st' o' hj' g1 g2 g3 g4 g5)

theorem refBuild_any (s : S) (w : World) (hs : s.size ≤ 65536) : Calls Try.prog 34 #[.string s] w (RBuildOut s w (buildR s.data.toList)) := by
  unfold buildR
  cases h : allR s.data.toList with
  | bad x r => exact refBuild_bad s w hs h
  | ok acc r =>
    refine refBuild_ok (fun lo B lv s acc _ hlen hs htx w st j o hj h1 h2 h3 h4 h5 => ?_) s w hs h
    obtain ⟨ao, cap, rfl⟩ := h2.1
    exact elem_at lo B ao cap s acc hlen hs htx _ j (Nat.le_refl _) w st o hj h1 h2 h3 h4 h5

theorem treeBuilds_all (s : S) (m : Int) (w : World) (hm : w.cell? ⟨0, 0, none⟩ = some (.int .i64 m)) :
    Calls Try.prog 11 #[.string s] w fun e w' => e = .returned (.bool true) ∧ Below w.heap.size w w' := treeBuilds_any refBuild_any s m w hm

end Go.Proofs.Ytpchljiiappmnaa
