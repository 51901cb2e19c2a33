/- The walk of the law TokenPrints; its conditions stand in the theorem. -/
import Derived.Test.YtpchljiiappmnaaK50
import Derived.Test.YtpchljiiappmnaaK31
namespace Go.Proofs.Ytpchljiiappmnaa
open Go Go.RowKit

theorem SliceOf.pre {α : Type} {n : Nat} {C : α → List Value} {w : World} {ao : Option Addr} {len cap : Nat} {l : List α} (h : SliceOf n C w (.slice ao len cap) l) {k : Nat} (hk : k ≤ l.length) : SliceOf n C w (.slice ao k cap) (l.take k) := by
  obtain ⟨ao', cap', h1, h2, hm, h3, h4⟩ := h
  simp only [Value.slice.injEq] at h1
  obtain ⟨rfl, rfl, rfl⟩ := h1
  refine ⟨ao, cap, by rw [List.length_take, Nat.min_eq_left hk], by rw [List.length_take]; omega, hm, h3, fun i x hx => ?_⟩
  rw [List.getElem?_take] at hx
  split at hx
  · exact h4 i x hx
  · cases hx
theorem TkMs.pre {w : World} {ao : Option Addr} {len cap : Nat} {L : List TkM} (h : TkMs w (.slice ao len cap) L) {k : Nat} (hk : k ≤ L.length) : TkMs w (.slice ao k cap) (L.take k) :=
  ⟨h.own.pre hk, fun x hx => h.att x (List.mem_of_mem_take hx)⟩
theorem TkMs.below {w w' : World} {v : Value} {L : List TkM} (h : TkMs w v L) (hb : Below w.heap.size w w') : TkMs w' v L := ⟨h.own.below hb, fun x hx => (h.att x hx).below hb⟩

set_option maxRecDepth 100000 in
set_option maxHeartbeats 8000000 in
theorem prints_few (v : Value) (L : List TkM) (m : Int) (w : World) (hm : w.cell? ⟨0, 0, none⟩ = some (.int .i64 m)) (h : TkMs w v L) (hsz : tksW (L.map (·.t)) ≤ 1000000000) (hf : L.length ≤ 50)
    (hz : ∀ x ∈ L, x.t.text.length ≤ 1000000000 ∧ x.t.attrs.length ≤ 1000000000) :
    Calls Try.prog 9 #[v] w fun e w' => e = .returned (.bool true) ∧ Below w.heap.size w w' := by
  have hw0 : 0 < w.heap.size := World.block_lt_of_cell? w _ hm
  obtain ⟨ao, cap, rfl⟩ := h.own.shape
  have hcap : L.length ≤ cap ∧ cap ≤ 9223372036854775807 := by
    obtain ⟨_, _, e, h2, h3, -⟩ := h.own
    simp only [Value.slice.injEq] at e
    unfold maxLen at h3; omega
  obtain ⟨hcap1, hcap2⟩ := hcap
  have h1 := h
  have hlen : L.length = L.length := rfl
  have hsz1 : tksW (L.map (·.t)) ≤ 1000000000 := hsz
  have f50 : ¬ (50 : Int) < ((L.length : Nat) : Int) := by omega
  have HM := Lib.hid hm
  have HT := Lib.hid h1
  have HZ1 := Lib.hid hz
  have HLEN : Hid ((L).length = L.length) := hlen
  have HSZ : Hid (tksW ((L).map (·.t)) ≤ 1000000000) := hsz1
  have HP1 : Hid (∀ w' : World, TkMs w' (.slice ao (L.length) cap) (L) → Calls Try.prog 29 #[.slice ao (L.length) cap] w' fun e w'' => e = .returned (.string (bs (printP ((L).map (·.t))))) ∧ Below w'.heap.size w' w'') := fun w' h' => print_any _ _ w' h' HSZ.out
  have HP2 : Hid (∀ w' : World, TkMs w' (.slice ao (L.length) cap) (L) → Calls Try.prog 30 #[.slice ao (L.length) cap] w' fun e w'' => e = .returned (.string (bs (printP ((L).map (·.t))))) ∧ Below w'.heap.size w' w'') := fun w' h' => refPrint_any _ _ w' h' HSZ.out
  clear hm h1 hz hlen hsz1 h hsz
  generalize bs (printP ((L).map (·.t))) = P at *
  go_enter Try.func9, Try.ntmps9
  go_wp2_with fail
  go_loopw [12] (fun i wr => ∃ k : Nat, k ≤ L.length ∧ i = .int .i64 k ∧ Below w.heap.size w wr) (fun i _ => L.length - (intOf i).toNat)
  case atStart => exact ⟨0, Nat.zero_le _, rfl, Below.refl _ _⟩
  case round =>
    obtain ⟨k, hk, rfl, hB⟩ := hrel
    have HB := Lib.hid hB
    have hwr := hB.size
    have HMr := Lib.hid ((hB.cell hw0).trans HM.out)
    by_cases hlt : k < L.length
    · have hltL : k < (L).length := hlt
      obtain ⟨g, o, rfl, hg, hc⟩ := HT.out.own.at hltL
      have hA := HT.out.att (L)[k] (List.getElem_mem hltL)
      have hzk := HZ1.out (L)[k] (List.getElem_mem hltL)
      have tr : ∀ q u, w.cell? ⟨g, q, none⟩ = some u → wr.cell? ⟨g, q, none⟩ = some u := fun q u hq => (HB.out.cell (by exact hg)).trans hq
      have d0 := tr _ _ (hc 0 _ rfl)
      have d1 := tr _ _ (hc 1 _ rfl)
      have d2 := tr _ _ (hc 2 _ rfl)
      have d3 := tr _ _ (hc 3 _ rfl)
      have d4 := tr _ _ (hc 4 _ rfl)
      have d5 := tr _ _ (hc 5 _ rfl)
      have d6 := tr _ _ (hc 6 _ rfl)
      rw [Nat.add_zero] at d0
      have hgr : g < wr.heap.size := Nat.lt_of_lt_of_le hg hwr
      have hi1 : (k : Int) < ((L.length : Nat) : Int) := by omega
      obtain ⟨ca, cpa, hav⟩ := hA.shape
      rw [hav] at d2
      generalize (L)[k] = x at *
      obtain ⟨X, hX⟩ : ∃ X : S, bs x.t.text = X := ⟨_, rfl⟩
      have hXs : X.size ≤ 1000000000 := by rw [← hX, bs_size]; exact hzk.1
      have has : x.t.attrs.length ≤ 1000000000 := hzk.2
      rw [hX] at d3
      have hcs : (2000 < X.size) ∨ (X.size ≤ 2000 ∧ 20 < x.t.attrs.length) ∨ (X.size ≤ 2000 ∧ x.t.attrs.length ≤ 20) := by omega
      clear hc tr hzk hA hav hX hB
      rcases hcs with h1 | ⟨h1, h2⟩ | ⟨h1, h2⟩
      rotate_left 2
      · have f1 : ¬ (2000 : Int) < ((X.size : Nat) : Int) := by omega
        have f2 : ¬ (20 : Int) < ((x.t.attrs.length : Nat) : Int) := by omega
        go_wp2
        go_round
        case rel => exact ⟨k + 1, hlt, by go_num, HB.out.alloc hwr _⟩
        case measure => simp [intOf]; omega
      · have f1 : (2000 : Int) < ((X.size : Nat) : Int) := by omega
        go_wp2_with fail
        refine Calls.world ?_
        intro W hW
        have hBW : Below wr.heap.size wr W := by rw [hW]; exact (Below.refl _ _).alloc (Nat.le_refl _) _
        clear hW
        refine (lives_any m W ((hBW.cell (by simp; omega)).trans HMr.out)).mono ?_
        rintro e w2 ⟨rfl, hb2⟩
        have HZ := Lib.hid ((HB.out.trans (hBW.mono hwr)).trans (hb2.mono (Nat.le_trans hwr hBW.size)))
        clear hBW hb2
        go_wp2
        go_ret
        exact ⟨rfl, HZ.out⟩
      · have f1 : ¬ (2000 : Int) < ((X.size : Nat) : Int) := by omega
        have f2 : (20 : Int) < ((x.t.attrs.length : Nat) : Int) := by omega
        go_wp2_with fail
        refine Calls.world ?_
        intro W hW
        have hBW : Below wr.heap.size wr W := by rw [hW]; exact (Below.refl _ _).alloc (Nat.le_refl _) _
        clear hW
        refine (lives_any m W ((hBW.cell (by simp; omega)).trans HMr.out)).mono ?_
        rintro e w2 ⟨rfl, hb2⟩
        have HZ := Lib.hid ((HB.out.trans (hBW.mono hwr)).trans (hb2.mono (Nat.le_trans hwr hBW.size)))
        clear hBW hb2
        go_wp2
        go_ret
        exact ⟨rfl, HZ.out⟩
    · obtain rfl : k = L.length := by omega
      have hTr := HT.out.below hB
      have HTr := Lib.hid hTr
      clear hTr hB
      go_wp2_with fail
      refine (HP1.out _ HTr.out).mono ?_
      rintro e w1 ⟨rfl, hb1⟩
      have HB1 := Lib.hid (HB.out.trans (hb1.mono hwr))
      have HT1 := Lib.hid (HTr.out.below hb1)
      have hw1 : w.heap.size ≤ w1.heap.size := Nat.le_trans hwr hb1.size
      clear hb1
      go_wp2_with fail
      refine (HP2.out _ HT1.out).mono ?_
      rintro e w2 ⟨rfl, hb2⟩
      have HB2 := Lib.hid (HB1.out.trans (hb2.mono hw1))
      have hw2 : w.heap.size ≤ w2.heap.size := Nat.le_trans hw1 hb2.size
      clear hb2
      go_wp2_with fail
      refine (lives_any m w2 ((HB2.out.cell (by exact hw0)).trans HM.out)).mono ?_
      rintro e w3 ⟨rfl, hb3⟩
      have HZ := Lib.hid (HB2.out.trans (hb3.mono hw2))
      clear hb3
      go_wp2
      go_ret
      exact ⟨rfl, HZ.out⟩

set_option maxRecDepth 100000 in
set_option maxHeartbeats 8000000 in
theorem prints_many (v : Value) (L : List TkM) (m : Int) (w : World) (hm : w.cell? ⟨0, 0, none⟩ = some (.int .i64 m)) (h : TkMs w v L) (hsz : tksW (L.map (·.t)) ≤ 1000000000) (hf : 50 < L.length)
    (hz : ∀ x ∈ L, x.t.text.length ≤ 1000000000 ∧ x.t.attrs.length ≤ 1000000000) :
    Calls Try.prog 9 #[v] w fun e w' => e = .returned (.bool true) ∧ Below w.heap.size w w' := by
  have hw0 : 0 < w.heap.size := World.block_lt_of_cell? w _ hm
  obtain ⟨ao, cap, rfl⟩ := h.own.shape
  have hcap : L.length ≤ cap ∧ cap ≤ 9223372036854775807 := by
    obtain ⟨_, _, e, h2, h3, -⟩ := h.own
    simp only [Value.slice.injEq] at e
    unfold maxLen at h3; omega
  obtain ⟨hcap1, hcap2⟩ := hcap
  have h1 := h.pre (k := 50) (by omega)
  have hlen : (L.take 50).length = 50 := by rw [List.length_take]; omega
  have hsz1 : tksW ((L.take 50).map (·.t)) ≤ 1000000000 := by
    rw [List.map_take]
    exact Nat.le_trans (tksW_take _ _) hsz
  have f50 : (50 : Int) < ((L.length : Nat) : Int) := by omega
  have hc50 : (50 : Int) ≤ ((cap : Nat) : Int) := by omega
  have HM := Lib.hid hm
  have HT := Lib.hid h1
  have HZ1 := Lib.hid hz
  have HLEN : Hid ((L.take 50).length = 50) := hlen
  have HSZ : Hid (tksW ((L.take 50).map (·.t)) ≤ 1000000000) := hsz1
  have HP1 : Hid (∀ w' : World, TkMs w' (.slice ao (50) cap) (L.take 50) → Calls Try.prog 29 #[.slice ao (50) cap] w' fun e w'' => e = .returned (.string (bs (printP ((L.take 50).map (·.t))))) ∧ Below w'.heap.size w' w'') := fun w' h' => print_any _ _ w' h' HSZ.out
  have HP2 : Hid (∀ w' : World, TkMs w' (.slice ao (50) cap) (L.take 50) → Calls Try.prog 30 #[.slice ao (50) cap] w' fun e w'' => e = .returned (.string (bs (printP ((L.take 50).map (·.t))))) ∧ Below w'.heap.size w' w'') := fun w' h' => refPrint_any _ _ w' h' HSZ.out
  clear hm h1 hz hlen hsz1 h hsz
  generalize bs (printP ((L.take 50).map (·.t))) = P at *
  go_enter Try.func9, Try.ntmps9
  go_wp2_with fail
  go_loopw [12] (fun i wr => ∃ k : Nat, k ≤ 50 ∧ i = .int .i64 k ∧ Below w.heap.size w wr) (fun i _ => 50 - (intOf i).toNat)
  case atStart => exact ⟨0, Nat.zero_le _, rfl, Below.refl _ _⟩
  case round =>
    obtain ⟨k, hk, rfl, hB⟩ := hrel
    have HB := Lib.hid hB
    have hwr := hB.size
    have HMr := Lib.hid ((hB.cell hw0).trans HM.out)
    by_cases hlt : k < 50
    · have hltL : k < (L.take 50).length := by rw [HLEN.out]; exact hlt
      obtain ⟨g, o, rfl, hg, hc⟩ := HT.out.own.at hltL
      have hA := HT.out.att (L.take 50)[k] (List.getElem_mem hltL)
      have hzk := HZ1.out (L.take 50)[k] (List.mem_of_mem_take (List.getElem_mem hltL))
      have tr : ∀ q u, w.cell? ⟨g, q, none⟩ = some u → wr.cell? ⟨g, q, none⟩ = some u := fun q u hq => (HB.out.cell (by exact hg)).trans hq
      have d0 := tr _ _ (hc 0 _ rfl)
      have d1 := tr _ _ (hc 1 _ rfl)
      have d2 := tr _ _ (hc 2 _ rfl)
      have d3 := tr _ _ (hc 3 _ rfl)
      have d4 := tr _ _ (hc 4 _ rfl)
      have d5 := tr _ _ (hc 5 _ rfl)
      have d6 := tr _ _ (hc 6 _ rfl)
      rw [Nat.add_zero] at d0
      have hgr : g < wr.heap.size := Nat.lt_of_lt_of_le hg hwr
      have hi1 : (k : Int) < ((50 : Nat) : Int) := by omega
      obtain ⟨ca, cpa, hav⟩ := hA.shape
      rw [hav] at d2
      generalize (L.take 50)[k] = x at *
      obtain ⟨X, hX⟩ : ∃ X : S, bs x.t.text = X := ⟨_, rfl⟩
      have hXs : X.size ≤ 1000000000 := by rw [← hX, bs_size]; exact hzk.1
      have has : x.t.attrs.length ≤ 1000000000 := hzk.2
      rw [hX] at d3
      have hcs : (2000 < X.size) ∨ (X.size ≤ 2000 ∧ 20 < x.t.attrs.length) ∨ (X.size ≤ 2000 ∧ x.t.attrs.length ≤ 20) := by omega
      clear hc tr hzk hA hav hX hB
      rcases hcs with h1 | ⟨h1, h2⟩ | ⟨h1, h2⟩
      rotate_left 2
      · have f1 : ¬ (2000 : Int) < ((X.size : Nat) : Int) := by omega
        have f2 : ¬ (20 : Int) < ((x.t.attrs.length : Nat) : Int) := by omega
        go_wp2
        go_round
        case rel => exact ⟨k + 1, hlt, by go_num, HB.out.alloc hwr _⟩
        case measure => simp [intOf]; omega
      · have f1 : (2000 : Int) < ((X.size : Nat) : Int) := by omega
        go_wp2_with fail
        refine Calls.world ?_
        intro W hW
        have hBW : Below wr.heap.size wr W := by rw [hW]; exact (Below.refl _ _).alloc (Nat.le_refl _) _
        clear hW
        refine (lives_any m W ((hBW.cell (by simp; omega)).trans HMr.out)).mono ?_
        rintro e w2 ⟨rfl, hb2⟩
        have HZ := Lib.hid ((HB.out.trans (hBW.mono hwr)).trans (hb2.mono (Nat.le_trans hwr hBW.size)))
        clear hBW hb2
        go_wp2
        go_ret
        exact ⟨rfl, HZ.out⟩
      · have f1 : ¬ (2000 : Int) < ((X.size : Nat) : Int) := by omega
        have f2 : (20 : Int) < ((x.t.attrs.length : Nat) : Int) := by omega
        go_wp2_with fail
        refine Calls.world ?_
        intro W hW
        have hBW : Below wr.heap.size wr W := by rw [hW]; exact (Below.refl _ _).alloc (Nat.le_refl _) _
        clear hW
        refine (lives_any m W ((hBW.cell (by simp; omega)).trans HMr.out)).mono ?_
        rintro e w2 ⟨rfl, hb2⟩
        have HZ := Lib.hid ((HB.out.trans (hBW.mono hwr)).trans (hb2.mono (Nat.le_trans hwr hBW.size)))
        clear hBW hb2
        go_wp2
        go_ret
        exact ⟨rfl, HZ.out⟩
    · obtain rfl : k = 50 := by omega
      have hTr := HT.out.below hB
      have HTr := Lib.hid hTr
      clear hTr hB
      go_wp2_with fail
      refine (HP1.out _ HTr.out).mono ?_
      rintro e w1 ⟨rfl, hb1⟩
      have HB1 := Lib.hid (HB.out.trans (hb1.mono hwr))
      have HT1 := Lib.hid (HTr.out.below hb1)
      have hw1 : w.heap.size ≤ w1.heap.size := Nat.le_trans hwr hb1.size
      clear hb1
      go_wp2_with fail
      refine (HP2.out _ HT1.out).mono ?_
      rintro e w2 ⟨rfl, hb2⟩
      have HB2 := Lib.hid (HB1.out.trans (hb2.mono hw1))
      have hw2 : w.heap.size ≤ w2.heap.size := Nat.le_trans hw1 hb2.size
      clear hb2
      go_wp2_with fail
      refine (lives_any m w2 ((HB2.out.cell (by exact hw0)).trans HM.out)).mono ?_
      rintro e w3 ⟨rfl, hb3⟩
      have HZ := Lib.hid (HB2.out.trans (hb3.mono hw2))
      clear hb3
      go_wp2
      go_ret
      exact ⟨rfl, HZ.out⟩

theorem prints_any (v : Value) (L : List TkM) (m : Int) (w : World) (hm : w.cell? ⟨0, 0, none⟩ = some (.int .i64 m)) (h : TkMs w v L) (hsz : tksW (L.map (·.t)) ≤ 1000000000)
    (hz : ∀ x ∈ L, x.t.text.length ≤ 1000000000 ∧ x.t.attrs.length ≤ 1000000000) :
    Calls Try.prog 9 #[v] w fun e w' => e = .returned (.bool true) ∧ Below w.heap.size w w' := by
  by_cases hf : L.length ≤ 50
  · exact prints_few v L m w hm h hsz hf hz
  · exact prints_many v L m w hm h hsz (by omega) hz

end Go.Proofs.Ytpchljiiappmnaa
