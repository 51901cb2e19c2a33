/- The law's examples of trees, walked; the conditions stand in the theorems. -/
import Derived.Test.YtpchljiiappmnaaG22
import Derived.Test.YtpchljiiappmnaaG20
import Derived.KernelRfl
import Derived.Test.YtpchljiiappmnaaG21
namespace Go.Proofs.Ytpchljiiappmnaa
open Go Go.RowKit

def exTree : Tr := .mk [97] [] [.mk [] [] [] [120, 121], .mk [98] [] [] []] []
theorem tex1 : buildR [60, 97, 62, 120, 60, 33, 45, 45, 32, 110, 32, 45, 45, 62, 121, 60, 98, 47, 62, 60, 47, 97, 62] = .ok exTree [] := by kernel_rfl
theorem tex2 : buildR [60, 97, 62, 60, 47, 98, 62] = .bad 14 [60, 47, 98, 62] := by kernel_rfl
theorem tex3 : buildR [60, 97, 47, 62, 120] = .bad 16 [120] := by kernel_rfl
theorem tex4 : buildR [32] = .bad 16 [] := by kernel_rfl

def TLive1 (w : World) (e : Ending) (w' : World) : Prop := ∃ av g o cap, e = .returned (.tuple #[.agg #[.string ⟨#[97]⟩, av, .slice (some ⟨g, o, none⟩) 2 cap, .string ⟨#[]⟩], .int .i64 0, .agg #[.int .i64 0, .int .i64 0, .int .i64 0]]) ∧ g < w'.heap.size ∧ w'.cell? ⟨g, o + 3, none⟩ = some (.string ⟨#[120, 121]⟩) ∧ w'.cell? ⟨g, o + 4, none⟩ = some (.string ⟨#[98]⟩) ∧ 2 ≤ cap ∧ (∃ a b c, av = .slice a b c) ∧ Below w.heap.size w w'
theorem tlive1 (m : Int) (w : World) (hm : w.cell? ⟨0, 0, none⟩ = some (.int .i64 m)) : Calls Try.prog 33 #[.string ⟨#[60, 97, 62, 120, 60, 33, 45, 45, 32, 110, 32, 45, 45, 62, 121, 60, 98, 47, 62, 60, 47, 97, 62]⟩] w (TLive1 w) := by
  have h := build_any ⟨#[60, 97, 62, 120, 60, 33, 45, 45, 32, 110, 32, 45, 45, 62, 121, 60, 98, 47, 62, 60, 47, 97, 62]⟩ m w (by decide) hm
  rw [show (⟨#[60, 97, 62, 120, 60, 33, 45, 45, 32, 110, 32, 45, 45, 62, 121, 60, 98, 47, 62, 60, 47, 97, 62]⟩ : S).data.toList = [60, 97, 62, 120, 60, 33, 45, 45, 32, 110, 32, 45, 45, 62, 121, 60, 98, 47, 62, 60, 47, 97, 62] from rfl, tex1] at h
  refine h.mono fun e w' hO => ?_
  obtain ⟨av, kv, rfl, hn, hb⟩ := hO
  obtain ⟨ao, cap, rfl, -, hk⟩ := hn.kid
  obtain ⟨g, o, a, b, e1, hg, -, -, -, c3, -⟩ := hk 0 (by decide)
  obtain ⟨g2, o2, a2, b2, e2, -, d0, -⟩ := hk 1 (by decide)
  subst e1
  cases e2
  obtain ⟨_, _, hs⟩ := hn.att.shape
  obtain ⟨_, -, -, q, -⟩ := hn.parts
  obtain ⟨_, _, e4, h4, -⟩ := q
  simp only [Value.slice.injEq] at e4
  obtain ⟨-, e5, rfl⟩ := e4
  refine ⟨av, g, o, _, rfl, hg, by simpa [exTree, Tr.kids, Tr.text, bs] using c3, by simpa [exTree, Tr.kids, Tr.name, bs] using d0, by rw [← e5] at h4; exact h4, ⟨_, _, _, hs⟩, hb⟩

def TLiveN (x o : Int) (w : World) (e : Ending) (w' : World) : Prop := ∃ li co : Int, e = .returned (.tuple #[.agg #[.string ⟨#[]⟩, .slice none 0 0, .slice none 0 0, .string ⟨#[]⟩], .int .i64 x, .agg #[.int .i64 o, .int .i64 li, .int .i64 co]]) ∧ Below w.heap.size w w'
theorem tliveN (s : S) (x : Int) (r : Bs) (m : Int) (w : World) (hs : s.size ≤ 65536) (h : buildR s.data.toList = .bad x r) (hm : w.cell? ⟨0, 0, none⟩ = some (.int .i64 m)) : Calls Try.prog 33 #[.string s] w (TLiveN x (pos s r : Nat) w) := by
  have h1 := build_any s m w hs hm
  rw [h] at h1
  exact h1.mono fun e w' ⟨he, hb⟩ => ⟨_, _, he, hb⟩
theorem tlive2 (m : Int) (w : World) (hm : w.cell? ⟨0, 0, none⟩ = some (.int .i64 m)) : Calls Try.prog 33 #[.string ⟨#[60, 97, 62, 60, 47, 98, 62]⟩] w (TLiveN 14 3 w) := tliveN _ 14 [60, 47, 98, 62] m w (by decide) tex2 hm
theorem tlive3 (m : Int) (w : World) (hm : w.cell? ⟨0, 0, none⟩ = some (.int .i64 m)) : Calls Try.prog 33 #[.string ⟨#[60, 97, 47, 62, 120]⟩] w (TLiveN 16 4 w) := tliveN _ 16 [120] m w (by decide) tex3 hm
theorem tlive4 (m : Int) (w : World) (hm : w.cell? ⟨0, 0, none⟩ = some (.int .i64 m)) : Calls Try.prog 33 #[.string ⟨#[32]⟩] w (TLiveN 16 1 w) := tliveN _ 16 [] m w (by decide) tex4 hm

set_option maxRecDepth 100000 in
set_option maxHeartbeats 8000000 in
theorem treeLives_any (m : Int) (w : World) (hm : w.cell? ⟨0, 0, none⟩ = some (.int .i64 m)) :
    Calls Try.prog 36 #[] w fun e w' => e = .returned (.bool true) ∧ Below w.heap.size w w' := by
  have hw0 : 0 < w.heap.size := World.block_lt_of_cell? w _ hm
  have HM := Lib.hid hm
  clear hm
  go_enter Try.func36, Try.ntmps36
  go_wp2_with fail
  refine (tlive1 m _ HM.out).mono ?_
  intro e w1 hO
  obtain ⟨av, g, o, cap, rfl, hg, c3, c4, hcap, ⟨va, vb, vc, rfl⟩, hb1⟩ := hO
  have HC := Lib.hid (And.intro c3 c4)
  have hw1 := hb1.size
  clear c3 c4
  go_wp2_with fail
  refine Calls.world ?_
  intro W1 hW1
  have x1 : Box W1 w1.heap.size [.string ⟨#[97]⟩, .slice va vb vc, .slice (some ⟨g, o, none⟩) 2 cap, .string ⟨#[]⟩] := by rw [hW1]; exact (Box.new w1 _ _ _ rfl).alloc _
  have b1 : Below w1.heap.size w1 W1 := by rw [hW1]; exact ((Below.refl _ _).alloc (Nat.le_refl _) _).alloc (by simp) _
  clear hW1
  have hB1 := hb1.trans (b1.mono hw1)
  refine (tlive2 m W1 ((hB1.cell (by exact hw0)).trans HM.out)).mono ?_
  intro e w2 hO
  obtain ⟨li2, co2, rfl, hb2⟩ := hO
  have x1b := x1.below hb2 x1.lt
  have bb2 := b1.trans (hb2.mono b1.size)
  have hB2 := hB1.trans (hb2.mono hB1.size)
  clear x1 b1 hB1 hb1 hb2
  go_wp2_with fail
  refine Calls.world ?_
  intro W2 hW2
  have y1 : Box W2 w1.heap.size [.string ⟨#[97]⟩, .slice va vb vc, .slice (some ⟨g, o, none⟩) 2 cap, .string ⟨#[]⟩] := by rw [hW2]; exact (x1b.alloc _).alloc _
  have x2 : Box W2 (w2.heap.size + 1) [.int .i64 3, .int .i64 li2, .int .i64 co2] := by rw [hW2]; exact Box.new _ _ _ _ (by simp)
  have b2 : Below w2.heap.size w2 W2 := by rw [hW2]; exact ((Below.refl _ _).alloc (Nat.le_refl _) _).alloc (by simp) _
  clear hW2 x1b
  have hB2' := hB2.trans (b2.mono hB2.size)
  have bb2' := bb2.trans (b2.mono bb2.size)
  refine (tlive3 m W2 ((hB2'.cell (by exact hw0)).trans HM.out)).mono ?_
  intro e w3 hO
  obtain ⟨li3, co3, rfl, hb3⟩ := hO
  have y1b := y1.below hb3 y1.lt
  have x2b := x2.below hb3 x2.lt
  have hB3 := hB2'.trans (hb3.mono hB2'.size)
  have bb3 := bb2'.trans (hb3.mono bb2'.size)
  clear x2 b2 hB2' hB2 hb3 bb2 bb2' y1
  go_wp2_with fail
  refine Calls.world ?_
  intro W3 hW3
  have y1 : Box W3 w1.heap.size [.string ⟨#[97]⟩, .slice va vb vc, .slice (some ⟨g, o, none⟩) 2 cap, .string ⟨#[]⟩] := by rw [hW3]; exact (y1b.alloc _).alloc _
  have y2 : Box W3 (w2.heap.size + 1) [.int .i64 3, .int .i64 li2, .int .i64 co2] := by rw [hW3]; exact (x2b.alloc _).alloc _
  have x3 : Box W3 (w3.heap.size + 1) [.int .i64 4, .int .i64 li3, .int .i64 co3] := by rw [hW3]; exact Box.new _ _ _ _ (by simp)
  have b3 : Below w3.heap.size w3 W3 := by rw [hW3]; exact ((Below.refl _ _).alloc (Nat.le_refl _) _).alloc (by simp) _
  clear hW3 x2b y1b
  have hB3' := hB3.trans (b3.mono hB3.size)
  have bb3' := bb3.trans (b3.mono bb3.size)
  refine (tlive4 m W3 ((hB3'.cell (by exact hw0)).trans HM.out)).mono ?_
  intro e w4 hO
  obtain ⟨li4, co4, rfl, hb4⟩ := hO
  have y1b := y1.below hb4 y1.lt
  have y2b := y2.below hb4 y2.lt
  have y3b := x3.below hb4 x3.lt
  have HB4 := Lib.hid (hB3'.trans (hb4.mono hB3'.size))
  have HBB := Lib.hid (bb3'.trans (hb4.mono bb3'.size))
  clear x3 b3 hB3' hB3 hb4 bb3 bb3' y2 y1
  have hg4 : g < w4.heap.size := Nat.lt_of_lt_of_le hg HBB.out.size
  have d3 := (HBB.out.cell (p := ⟨g, o + 3, none⟩) (by exact hg)).trans HC.out.1
  have d4 := (HBB.out.cell (p := ⟨g, o + 4, none⟩) (by exact hg)).trans HC.out.2
  have q0 := y1b.cell 0 _ rfl
  have q1 := y1b.cell 2 _ rfl
  have q2 := y2b.cell 0 _ rfl
  have q3 := y3b.cell 0 _ rfl
  have l1 := y1b.lt
  have l2 := y2b.lt
  have l3 := y3b.lt
  clear y1b y2b y3b hg
  generalize w2.heap.size + 1 = p2 at *
  generalize w3.heap.size + 1 = p3 at *
  go_wp2
  go_ret
  exact ⟨rfl, (HB4.out.alloc HB4.out.size _).alloc (by simp; have := HB4.out.size; omega) _⟩

end Go.Proofs.Ytpchljiiappmnaa

/- The law TreeAsks, walked; the conditions stand in the theorems. -/
namespace Go.Proofs.Ytpchljiiappmnaa
open Go Go.RowKit

theorem textF_le (c : Nat) : ∀ (l : List Tr), (∀ k ∈ l, k.text.length ≤ c) → (textF l).length ≤ l.length * c
  | [], _ => by simp [textF]
  | t :: l, h => by
    have h1 := textF_le c l (fun k hk => h k (List.mem_cons_of_mem _ hk))
    have h2 := h t (List.mem_cons_self ..)
    rw [textF, List.length_append, List.length_cons, Nat.succ_mul]
    split
    · omega
    · simp only [List.length_nil]; omega
theorem Coll.later {B : Nat} {w wr w' : World} {v : Value} {L : List TrV} (h : Coll B w wr v L) (hb : Below wr.heap.size wr w') : SliceOf 4 trC w' v L ∧ ∀ y ∈ L, NodeOf w' y.1 y.2.1 y.2.2 :=
  ⟨(h.own.below hb).slice trC_len, fun y hy => ((h.nodes y hy).later hb).node⟩
/-- An element of a list of nodes. -/
theorem nodes_at {w : World} {a : Option Addr} {n c : Nat} {L : List TrV} (h : SliceOf 4 trC w (.slice a n c) L) (hn : ∀ y ∈ L, NodeOf w y.1 y.2.1 y.2.2) (k : Nat) (hk : k < L.length) : ∃ g o a1 a2 a3 a4, a = some ⟨g, o, none⟩ ∧ g < w.heap.size ∧ w.cell? ⟨g, o + k * 4, none⟩ = some (.string (bs L[k].1.name)) ∧ w.cell? ⟨g, o + k * 4 + 1, none⟩ = some (.slice a1 L[k].1.attrs.length a2) ∧ w.cell? ⟨g, o + k * 4 + 2, none⟩ = some (.slice a3 L[k].1.kids.length a4) ∧ w.cell? ⟨g, o + k * 4 + 3, none⟩ = some (.string (bs L[k].1.text)) ∧ NodeOf w L[k].1 (.slice a1 L[k].1.attrs.length a2) (.slice a3 L[k].1.kids.length a4) := by
  obtain ⟨ao, cap, e, -, -, -, h5⟩ := h
  simp only [Value.slice.injEq] at e
  obtain ⟨rfl, -, -⟩ := e
  obtain ⟨g, o, e1, e2, e3⟩ := h5 k L[k] (List.getElem?_eq_getElem hk)
  have hy := hn L[k] (List.getElem_mem hk)
  obtain ⟨x1, x2, x3, x4, f1, f2, -, -⟩ := hy.shape
  rw [f1, f2] at hy
  exact ⟨g, o, x1, x2, x3, x4, e1, e2, by simpa using e3 0 _ rfl, by rw [← f1]; exact e3 1 _ rfl, by rw [← f2]; exact e3 2 _ rfl, e3 3 _ rfl, hy⟩

set_option maxRecDepth 100000 in
set_option maxHeartbeats 16000000 in
theorem treeAsks_any (t : Tr) (m : Bs) (mx : Int) (w : World) (av kv : Value) (ht : NodeOf w t av kv) (hm : w.cell? ⟨0, 0, none⟩ = some (.int .i64 mx)) :
    Calls Try.prog 14 #[nodeV t av kv, .string (bs m)] w fun e w' => e = .returned (.bool true) ∧ Below w.heap.size w w' := by
  have hw0 : 0 < w.heap.size := World.block_lt_of_cell? w _ hm
  obtain ⟨ao, ac, ko, kc, rfl, rfl, hal, hkl⟩ := ht.shape
  have HLV : Hid (∀ W, Below w.heap.size w W → Calls Try.prog 36 #[] W fun e w' => e = .returned (.bool true) ∧ Below W.heap.size W w') := fun W h => treeLives_any mx W ((h.cell (by exact hw0)).trans hm)
  have HT := Lib.hid ht
  have HLI : Hid (∀ W, Below w.heap.size w W → Calls Try.prog 37 #[.agg #[.string (bs t.name), .slice ao t.attrs.length ac, .slice ko t.kids.length kc, .string (bs t.text)]] W fun e w' => Below W.heap.size W w' ∧ ∃ b : Bool, e = .returned (.bool b) ∧ (b = true → LightT t ∧ t.cnt ≤ 300)) := fun W h => lightTop_any t W _ _ (HT.out.later h)
  have HBA : Hid (∀ o, Below w.heap.size w (w.alloc o)) := fun o => (Below.refl _ w).alloc (Nat.le_refl _) _
  clear ht hm
  unfold nodeV
  go_enter Try.func14, Try.ntmps14
  go_wp2_with fail
  refine (HLI.out _ (HBA.out _)).mono ?_
  rintro e w1 ⟨hb1, b, rfl, hz⟩
  have HB1 := Lib.hid ((HBA.out _).trans (hb1.mono (HBA.out _).size))
  have HX1 := Lib.hid ((Box.new w [.string (bs t.name), .slice ao t.attrs.length ac, .slice ko t.kids.length kc, .string (bs t.text)] 54 _ rfl).below hb1 (by simp))
  have HZ := Lib.hid hz
  clear hz hb1 HBA
  cases b with
  | false =>
    go_wp2_with fail
    refine (HLV.out _ HB1.out).mono ?_
    rintro e w2 ⟨rfl, hb2⟩
    have HB2 := Lib.hid (HB1.out.trans (hb2.mono HB1.out.size))
    clear hb2
    go_wp2
    go_ret
    exact ⟨rfl, HB2.out⟩
  | true =>
    obtain ⟨hli, hcn⟩ := HZ.out (by trivial)
    have hk3 := hli.kidl
    have HTX : Hid ((textF t.kids).length ≤ 300000) := by
      have h1 := textF_le 1000 t.kids (fun k hk => (hli.kids k hk).text)
      show _ ≤ _; omega
    clear hli hcn HZ
    have b1 := HX1.out.cell 1 _ rfl
    have bl := HX1.out.lt
    have HAT := Lib.hid (fun k hk => (HT.out.later HB1.out).atA k hk)
    go_wp2
    go_loopw [5, 6, 7] (fun v is i wr => ∃ (k : Nat) (z : Int) (V : S) (b : Bool), k ≤ t.attrs.length ∧ z = (k : Int) - 1 ∧ i = .int .i64 z ∧ v = .string V ∧ is = .bool b ∧ wr = w1 ∧ Hid (V = bs ((attrF m (t.attrs.drop k)).getD []) ∧ b = (attrF m (t.attrs.drop k)).isSome)) (fun _ _ i _ => (intOf i + 1).toNat)
    case atStart => exact ⟨t.attrs.length, _, ⟨#[]⟩, false, Nat.le_refl _, rfl, rfl, rfl, rfl, rfl, by rw [List.drop_length]; exact ⟨rfl, rfl⟩⟩
    case round =>
      obtain ⟨k, z, V, b, hk, hz, rfl, rfl, rfl, hwr, HR⟩ := hrel
      obtain rfl : w1 = wr := hwr.symm
      by_cases hk0 : 0 < k
      · obtain ⟨j, rfl⟩ : ∃ j, k = j + 1 := ⟨k - 1, by omega⟩
        obtain rfl : z = (j : Int) := by omega
        have hlt : j < t.attrs.length := by omega
        obtain ⟨g, o, rfl, hg, -, c0, c1⟩ := HAT.out j hlt
        have hki : (j : Int) < (t.attrs.length : Int) := by omega
        have hj0 : (0 : Int) ≤ (j : Int) := by omega
        have HD := Lib.hid (attrF_drop (m := m) hlt)
        have hE := bs_beq2 t.attrs[j].1 m
        by_cases he : t.attrs[j].1 = m
        · rw [decide_eq_true he] at hE
          rw [if_pos he] at HD
          clear he hz
          go_wp2
          go_roundw
          case rel => exact ⟨j, (j : Int) - 1, bs t.attrs[j].2, true, by omega, by first | rfl | trivial, by go_num, by first | rfl | trivial, by first | rfl | trivial, by first | rfl | trivial, by rw [HD.out]; first | exact ⟨rfl, rfl⟩ | exact ⟨trivial, rfl⟩ | simp⟩
          case measure => simp [intOf]
        · rw [decide_eq_false he] at hE
          rw [if_neg he] at HD
          clear he hz
          go_wp2
          go_roundw
          case rel => exact ⟨j, (j : Int) - 1, V, b, by omega, by first | rfl | trivial, by go_num, by first | rfl | trivial, by first | rfl | trivial, by first | rfl | trivial, by rw [HD.out]; exact HR.out⟩
          case measure => simp [intOf]
      · obtain rfl : k = 0 := by omega
        obtain rfl : z = -1 := by omega
        have HR0 : Hid (V = bs ((attrF m t.attrs).getD []) ∧ b = (attrF m t.attrs).isSome) := by have := HR.out; rwa [List.drop_zero] at this
        have b0 := HX1.out.cell 0 _ rfl
        have b2 := HX1.out.cell 2 _ rfl
        have b3 := HX1.out.cell 3 _ rfl
        have HC := Lib.hid (attr_any t m w1 _ _ (HT.out.later HB1.out))
        unfold nodeV at HC
        clear HR HAT hz hk hk0
        go_wp2_with fail
        refine HC.out.mono ?_
        rintro e w2 ⟨rfl, hb2⟩
        have HB2 := Lib.hid (HB1.out.trans (hb2.mono HB1.out.size))
        have HX2 := Lib.hid (HX1.out.below hb2 bl)
        rw [← HR0.out.1, ← HR0.out.2]
        clear hb2 b0 b1 b2 b3 bl HC HX1 HB1 HR0
        have b2 := HX2.out.cell 2 _ rfl
        have bl := HX2.out.lt
        go_wp2
        go_loopw [10, 11, 51] (fun v s i wr => ∃ (k : Nat) (L : List TrV) (v' : Value) (s' : S), k ≤ t.kids.length ∧ i = .int .i64 k ∧ v = v' ∧ s = .string s' ∧ Hid (w2.heap.size ≤ wr.heap.size ∧ Coll w2.heap.size w2 wr v' L ∧ L.map (·.1) = kidsF m (t.kids.take k) ∧ s' = bs (textF (t.kids.take k)))) (fun _ _ i _ => t.kids.length - (intOf i).toNat)
        case atStart => exact ⟨0, [], _, ⟨#[]⟩, Nat.zero_le _, rfl, rfl, rfl, Nat.le_refl _, ⟨Below.refl _ _, Owns.nil, by simp⟩, by simp [kidsF], by simp [textF]; rfl⟩
        case round =>
          obtain ⟨k, L, v, s, hk, rfl, rfl, rfl, HR⟩ := hrel
          obtain ⟨la, lc, hlv⟩ := HR.out.2.1.own.shape
          subst hlv
          have HBR := Lib.hid (HB2.out.trans (HR.out.2.1.below.mono HB2.out.size))
          clear b2
          by_cases hlt : k < t.kids.length
          · have hnX : NodeX (fun j => w2.heap.size ≤ j) w2 t (.slice ao t.attrs.length ac) (.slice ko t.kids.length kc) := (HT.out.later HB2.out).keep (KeptX.refl _ _) (fun k h1 h2 => by omega)
            obtain ⟨g, o, a1, a2, a3, a4, rfl, hg, -, c0, c1, c2, c3, hn2⟩ := (hnX.keep (KeptX.below HR.out.2.1.below) (fun _ _ h => h)).at k hlt
            have hki : (k : Int) < (t.kids.length : Int) := by omega
            have HD := Lib.hid (kidsF_take (m := m) hlt)
            have HDT := Lib.hid (textF_take hlt)
            have HC := Lib.hid (fun o => HR.out.2.1.alloc HR.out.1 o)
            have HZ := Lib.hid (fun o => (show w2.heap.size ≤ (wr.alloc o).heap.size by have := HR.out.1; simp; omega))
            have HN := Lib.hid hn2
            have hE := bs_beq2 t.kids[k].name m
            have hLl : L.length ≤ k := by
              have h1 := filter_len m t.kids k
              rw [← HR.out.2.2.1] at h1
              simpa using h1
            clear hn2 hnX
            by_cases hne : t.kids[k].name = []
            · have he : (bs t.kids[k].name : S).toList.isEmpty = true := by rw [empty_data, bs_size, hne]; rfl
              have hik : isKid m t.kids[k] = false := by unfold isKid; rw [hne]; rfl
              have hkE : t.kids[k].name.isEmpty = true := by rw [hne]; rfl
              rw [hik] at HD
              rw [hkE] at HDT
              obtain ⟨X, hX⟩ : ∃ X : S, X = bs t.kids[k].text := ⟨_, rfl⟩
              rw [← hX] at c3
              have HS : Hid (s ++ X = bs (textF (t.kids.take (k + 1)))) := by show _ = _; rw [HR.out.2.2.2, hX, bs_append, HDT.out]; rfl
              have hsz : ¬ 9223372036854775807 < s.size + X.size := by
                have h1 := textF_take_le t.kids (k + 1)
                have h2 := HTX.out
                have h3 : (s ++ X).size = (textF (t.kids.take (k + 1))).length := by rw [HS.out, bs_size]
                have h4 : (s ++ X).size = s.size + X.size := by simp
                omega
              clear hne hE hik hX hkE
              go_wp2
              go_roundw
              case rel => exact ⟨k + 1, L, _, s ++ X, hlt, by go_num, rfl, rfl, HZ.out _, HC.out _, by rw [HD.out, HR.out.2.2.1]; simp, HS.out⟩
              case measure => simp [intOf]; omega
            · have he : (bs t.kids[k].name : S).toList.isEmpty = false := by rw [empty_data, bs_size]; simpa using hne
              have hkE : t.kids[k].name.isEmpty = false := by simpa using hne
              have hmE : (bs m : S).toList.isEmpty = m.isEmpty := by rw [empty_data, bs_size]; cases m <;> simp
              have hik : isKid m t.kids[k] = (m.isEmpty || decide (t.kids[k].name = m)) := by unfold isKid; rw [hkE]; rfl
              rw [hkE] at HDT
              have HS : Hid (s = bs (textF (t.kids.take (k + 1)))) := by show _ = _; rw [HDT.out, HR.out.2.2.2]; simp
              clear hne
              have hcs : (isKid m t.kids[k] = false ∧ (bs m : S).toList.isEmpty = false ∧ ((bs t.kids[k].name : S).toList == (bs m : S).toList) = false) ∨ (isKid m t.kids[k] = true ∧ ((bs t.kids[k].name : S).toList == (bs m : S).toList) = true) ∨ (isKid m t.kids[k] = true ∧ (bs m : S).toList.isEmpty = true ∧ ((bs t.kids[k].name : S).toList == (bs m : S).toList) = false) := by
                rw [hik, hmE, hE]
                cases m.isEmpty <;> cases decide (t.kids[k].name = m) <;> simp
              clear hik hmE hE hkE
              rcases hcs with ⟨hik, hm1, hE⟩ | hcs
              · rw [hik] at HD
                clear hik
                go_wp2
                go_roundw
                case rel => exact ⟨k + 1, L, _, s, hlt, by go_num, rfl, rfl, HZ.out _, HC.out _, by rw [HD.out, HR.out.2.2.1]; simp, HS.out⟩
                case measure => simp [intOf]; omega
              · have hikt : isKid m t.kids[k] = true := by rcases hcs with ⟨h, -⟩ | ⟨h, -⟩ <;> exact h
                rw [hikt] at HD
                have HOO : Hid (∀ o o2, Owns w2.heap.size 54 4 trC ((wr.alloc o).alloc o2) (.slice la L.length lc) L) := fun o o2 => ((HC.out o).own).alloc o2
                have HFI : Hid (∀ o o2 v8 w8, Owns w2.heap.size 54 4 trC w8 v8 (L ++ [(t.kids[k], .slice a1 t.kids[k].attrs.length a2, .slice a3 t.kids[k].kids.length a4)]) → ((wr.alloc o).alloc o2).grownBy w8 (Value.slice la L.length lc).ownBlock → w2.heap.size ≤ w8.heap.size ∧ Coll w2.heap.size w2 w8 v8 (L ++ [(t.kids[k], .slice a1 t.kids[k].attrs.length a2, .slice a3 t.kids[k].kids.length a4)])) := fun o o2 v8 w8 h1 h2 =>
                  ⟨by have := h2.size; have := HZ.out o; simp at *; omega, ((HC.out o).alloc (HZ.out o) o2).push ((HN.out.later ((Below.refl _ _).alloc (Nat.le_refl _) _)).later ((Below.refl _ _).alloc (Nat.le_refl _) _)) h1 h2 (by have := HZ.out o; simp at *; omega)⟩
                have HSZ2 : Hid (∀ o o2, w2.heap.size ≤ ((wr.alloc o).alloc o2).heap.size) := fun o o2 => by have := HZ.out o; simp at *; omega
                have HBY : Hid (∀ y : TrV, (L.length + [y].length) * 80 ≤ 140737488355328) := fun y => by simp only [List.length_cons, List.length_nil]; omega
                have HIS := Lib.hid HR.out.2.2.1
                have hCS : (((bs t.kids[k].name : S).toList == (bs m : S).toList) = true) ∨ ((bs m : S).toList.isEmpty = true ∧ ((bs t.kids[k].name : S).toList == (bs m : S).toList) = false) := by
                  rcases hcs with ⟨-, h⟩ | ⟨-, h⟩
                  · exact .inl h
                  · exact .inr h
                clear hcs hikt HR HN HC HZ hLl HDT
                generalize hkk : t.kids[k] = y at *
                obtain ⟨yn, ya, yk, yx⟩ := y
                simp only [Tr.name, Tr.attrs, Tr.kids, Tr.text] at *
                rcases hCS with hE | ⟨hm1, hE⟩
                all_goals
                  go_wp2_with (at_builtin; go_loud ((refine wpList_append_slice _ rfl _ _ 52 rfl w2.heap.size 54 Try.underlying52 info_node rfl (by decide) trC_len (.slice la L.length lc) L rfl (HOO.out _ _) _ [((.mk yn ya yk yx, .slice a1 ya.length a2, .slice a3 yk.length a4) : TrV)] rfl (lit_one (.mk yn ya yk yx, .slice a1 ya.length a2, .slice a3 yk.length a4) _ _ (by simp)) (one_one _ _ _ _ _ _ _) (HBY.out _) (by decide) (HSZ2.out _ _) ?_; intro v8 w8 hown8 hgrow8 hloc8; have HP8 := Lib.hid (HFI.out _ _ _ _ hown8 hgrow8); clear hown8 hgrow8 hloc8)))
                  go_wp2
                  go_roundw
                  case rel => exact ⟨k + 1, _, _, s, hlt, by go_num, rfl, rfl, HP8.out.1, HP8.out.2, by rw [HD.out, List.map_append, HIS.out]; rfl, HS.out⟩
                  case measure => simp [intOf]; omega
          · obtain rfl : k = t.kids.length := by omega
            have HF : Hid (L.map (·.1) = kidsF m t.kids ∧ s = bs (textF t.kids)) := by have := HR.out.2.2; rwa [List.take_length] at this
            have HX3 := Lib.hid (HX2.out.below HR.out.2.1.below bl)
            have HK := Lib.hid (kids_any t m wr _ _ (HT.out.later HBR.out) (by omega))
            have HC3 := Lib.hid HR.out.2.1
            unfold nodeV at HK
            clear HR bl
            have b0 := HX3.out.cell 0 _ rfl
            have b1 := HX3.out.cell 1 _ rfl
            have b2 := HX3.out.cell 2 _ rfl
            have b3 := HX3.out.cell 3 _ rfl
            have bl := HX3.out.lt
            go_wp2_with fail
            refine HK.out.mono ?_
            rintro e w4 ⟨v4, L4, rfl, hL4, hC4⟩
            obtain ⟨ma, mc, hmv⟩ := hC4.own.shape
            subst hmv
            have hLe : L4.length = L.length := by
              have h1 := congrArg List.length (hL4.trans HF.out.1.symm)
              simpa using h1
            have HLE : Hid (∀ (k : Nat) (h1 : k < L4.length) (h2 : k < L.length), L4[k].1 = L[k].1) := fun k h1 h2 => by
              have := congrArg (fun l => l[k]?) (hL4.trans HF.out.1.symm)
              simpa [h1, h2] using this
            have HB4 := Lib.hid (HBR.out.trans (hC4.below.mono HBR.out.size))
            have HX4 := Lib.hid (HX3.out.below hC4.below bl)
            have HC4 := Lib.hid hC4
            have HS3 := Lib.hid (HC3.out.later hC4.below)
            rw [hLe] at HC4 ⊢
            clear hL4 hC4 HK HC3 HX3 HBR b0 b1 b2 b3 bl HX2 HB2
            have b0 := HX4.out.cell 0 _ rfl
            have b1 := HX4.out.cell 1 _ rfl
            have b2 := HX4.out.cell 2 _ rfl
            have b3 := HX4.out.cell 3 _ rfl
            have bl := HX4.out.lt
            have HLEN := Lib.hid hLe
            have hb1 : ((L.length : Int) == (L.length : Int)) = true := by simp
            have hb2 : ((L.length : Int) != (L.length : Int)) = false := by simp
            have hvv : (V.toList == V.toList) = true := by simp
            have hvw : (V.toList != V.toList) = false := by simp
            have hbb : (b == b) = true := by simp
            have hbw : (b != b) = false := by simp
            have HTE := Lib.hid (text_any t w4 _ _ (HT.out.later HB4.out) (by have := HTX.out; omega))
            unfold nodeV at HTE
            clear hLe
            go_wp2_with fail
            refine HTE.out.mono ?_
            rintro e w5 ⟨rfl, hb5⟩
            have HB5 := Lib.hid (HB4.out.trans (hb5.mono HB4.out.size))
            have HS5 : Hid (SliceOf 4 trC w5 (.slice la L.length lc) L ∧ (∀ y ∈ L, NodeOf w5 y.1 y.2.1 y.2.2) ∧ SliceOf 4 trC w5 (.slice ma L.length mc) L4 ∧ ∀ y ∈ L4, NodeOf w5 y.1 y.2.1 y.2.2) := ⟨HS3.out.1.below hb5, fun y hy => (HS3.out.2 y hy).later hb5, (HC4.out.later hb5).1, (HC4.out.later hb5).2⟩
            have HRT := Lib.hid (refTrim_any s w5 (by rw [HF.out.2, bs_size]; have := HTX.out; omega))
            clear hb5 HTE HS3 HC4 HX4 HB4 b0 b1 b2 b3 bl
            go_wp2_with fail
            refine HRT.out.mono ?_
            rintro e w6 ⟨x, rfl, hx, hw6⟩
            obtain rfl : w5 = w6 := hw6
            have hxe : x = bs (trimB (textF t.kids)) := by rw [HF.out.2] at hx; rw [← data_bs x, hx]; rfl
            subst hxe
            clear hx HRT
            generalize (bs (trimB (textF t.kids)) : S) = Y at *
            have hyy : (Y.toList == Y.toList) = true := by simp
            have hyw : (Y.toList != Y.toList) = false := by simp
            have HLK : Hid (L.length ≤ 9223372036854775807) := by
              show _ ≤ _
              have h1 := congrArg List.length HF.out.1
              have h2 := List.length_filter_le (isKid m) t.kids
              unfold kidsF at h1
              simp only [List.length_map] at h1
              omega
            have hlk := HLK.out
            go_wp2
            go_loopw [102] (fun i wr => ∃ k : Nat, k ≤ L.length ∧ i = .int .i64 k ∧ Hid (Below w5.heap.size w5 wr)) (fun i _ => L.length - (intOf i).toNat)
            case atStart => exact ⟨0, Nat.zero_le _, rfl, Below.refl _ _⟩
            case round =>
              obtain ⟨k, hk, rfl, HR⟩ := hrel
              clear hyy hyw hvv hvw hbb hbw hb1 hb2
              by_cases hlt : k < L.length
              · have hlt4 : k < L4.length := by have := HLEN.out; omega
                obtain ⟨g, o, a1, a2, a3, a4, rfl, hg, c0, c1, c2, c3, hn1⟩ := nodes_at (HS5.out.1.below HR.out) (fun y hy => (HS5.out.2.1 y hy).later HR.out) k hlt
                obtain ⟨g2, o2, e1, e2, e3, e4, rfl, hg2, d0, d1, d2, d3, hn2⟩ := nodes_at (HS5.out.2.2.1.below HR.out) (fun y hy => (HS5.out.2.2.2 y hy).later HR.out) k hlt4
                have hki : (k : Int) < (L.length : Int) := by omega
                have hk0 : (0 : Int) ≤ (k : Int) := by omega
                have heq := HLE.out k hlt4 hlt
                have hsm := refSame_any _ L4[k].1 L[k].1 wr.drew _ _ _ _ (Nat.le_refl _) (hn2.later (belowN (Below.refl _ wr) 1)) (hn1.later (belowN (Below.refl _ wr) 1))
                unfold nodeV at hsm
                have HSM := Lib.hid hsm
                have HEQ := Lib.hid heq
                clear hn1 hn2 hsm heq
                generalize L4[k].1 = y4 at *
                generalize L[k].1 = y at *
                go_wp2
                go_still_tail 8, (by kernel_rfl)
                change wpList _ _ _ _ _ wr.drew
                go_wp2_with fail
                refine HSM.out.mono ?_
                rintro e w7 ⟨z, rfl, hz, hb7⟩
                obtain rfl : z = true := hz.2 HEQ.out
                have HB7 := Lib.hid (HR.out.trans (((belowN (Below.refl _ wr) 1).trans hb7).mono HR.out.size))
                clear hz hb7 HSM
                go_wp2
                go_roundw
                case rel => exact ⟨k + 1, hlt, by go_num, HB7.out⟩
                case measure => simp [intOf]; omega
              · obtain rfl : k = L.length := by omega
                have HB6 := Lib.hid (HB5.out.trans (HR.out.mono HB5.out.size))
                go_wp2_with fail
                refine (HLV.out _ HB6.out).mono ?_
                rintro e w8 ⟨rfl, hb8⟩
                have HB8 := Lib.hid (HB6.out.trans (hb8.mono HB6.out.size))
                clear hb8
                go_wp2
                go_ret
                exact ⟨rfl, HB8.out⟩

end Go.Proofs.Ytpchljiiappmnaa
