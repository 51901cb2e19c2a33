/- slices.Delete of one part of a version; the conditions stand in the theorem. -/
import Derived.Test.YtecffghcpknmjaaGreatDoorV4
import Derived.Deep.RegionLaw
import Derived.Laws.OwnMore
namespace Go.Proofs.YtecffghcpknmjaaGreatDoor
open Go Go.RowKit

def prtC (p : PartV) : List Value := [.bool p.hyphen, .bool p.number, .string (bs p.text)]
theorem prtC_len (p : PartV) : (prtC p).length = 3 := rfl
theorem prtC_one (p : PartV) : ∀ u ∈ prtC p, u.oneCell' = true := by simp [prtC, Value.oneCell']
theorem info_pt : (Tryz.prog.info? 151).map (fun i => (i.zero, i.size, i.bytes)) = some (some (.agg #[.bool false, .bool false, .string ⟨#[]⟩]), 3, 24) := by kernel_rfl
def zeroPt : List Value := [.bool false, .bool false, .string ⟨#[]⟩]
theorem row_setCells {base : Nat} {e : TypeId} {size g n cap : Nat} : ∀ (vs : List Value) {w : World} {xs : List Value} (o : Nat), w.ownsRow base e size (.slice (some ⟨g, 0, none⟩) n cap) n xs → o + vs.length ≤ xs.length →
    (w.setCells g o vs).ownsRow base e size (.slice (some ⟨g, 0, none⟩) n cap) n (xs.take o ++ vs ++ xs.drop (o + vs.length))
  | [], w, xs, o, h, _ => by
    rw [List.append_nil, List.length_nil, Nat.add_zero, List.take_append_drop]; exact h
  | v :: vs, w, xs, o, h, hl => by
    have h1 := (World.ownsRow.stored h o v).1
    have h2 := row_setCells vs (o + 1) h1 (by simp at hl ⊢; omega)
    have e1 : (xs.set o v).take (o + 1) = xs.take o ++ [v] := by
      rw [List.take_add_one, List.take_set_of_le (Nat.le_refl _), List.getElem?_set_self (by simp at hl; omega)]; rfl
    have e2 : (xs.set o v).drop (o + 1 + vs.length) = xs.drop (o + (v :: vs).length) := by
      rw [List.drop_set_of_lt (by omega)]
      congr 1
      simp; omega
    rw [e1, e2] at h2
    simpa [World.setCells] using h2
theorem row_shrink {base : Nat} {e : TypeId} {size g n m cap : Nat} {w : World} {xs : List Value} (h : w.ownsRow base e size (.slice (some ⟨g, 0, none⟩) n cap) n xs) (hm : m ≤ n) : w.ownsRow base e size (.slice (some ⟨g, 0, none⟩) m cap) m (xs.take (m * size)) := by
  obtain ⟨h1, h2⟩ := h
  have hms : m * size ≤ n * size := Nat.mul_le_mul_right _ hm
  refine ⟨by rw [List.length_take, h1]; omega, ?_⟩
  rcases h2 with ⟨h', -⟩ | ⟨g', cap', cur, h', hb, hg, hnc, hcm, hcs, ht⟩
  · cases h'
  · cases h'
    exact .inr ⟨g, cap, cur, rfl, hb, hg, by omega, hcm, hcs, by rw [← ht, List.take_take, Nat.min_eq_left hms]⟩
theorem flat_take {α : Type} {C : α → List Value} {n : Nat} (hC : ∀ x, (C x).length = n) : ∀ (l : List α) (i : Nat), (l.take i).flatMap C = (l.flatMap C).take (i * n)
  | [], i => by simp
  | x :: l, 0 => by simp
  | x :: l, i + 1 => by
    rw [List.take_succ_cons, List.flatMap_cons, List.flatMap_cons, flat_take hC l i, Nat.add_mul, Nat.one_mul, Nat.add_comm, show n + i * n = (C x).length + i * n by rw [hC], List.take_length_add_append]
theorem flat_drop {α : Type} {C : α → List Value} {n : Nat} (hC : ∀ x, (C x).length = n) : ∀ (l : List α) (i : Nat), (l.drop i).flatMap C = (l.flatMap C).drop (i * n)
  | [], i => by simp
  | x :: l, 0 => by simp
  | x :: l, i + 1 => by
    rw [List.drop_succ_cons, List.flatMap_cons, flat_drop hC l i, Nat.add_mul, Nat.one_mul, Nat.add_comm, show n + i * n = (C x).length + i * n by rw [hC], List.drop_length_add_append]
/-- What is moved to the left. -/
def movedP (l : List PartV) (i : Nat) : List Value := (l.drop (i + 1)).flatMap prtC
theorem movedP_len (l : List PartV) (i : Nat) : (movedP l i).length = (l.length - (i + 1)) * 3 := by unfold movedP; rw [flat_len prtC_len, List.length_drop]
/-- The row behind the moving and the clearing. -/
theorem del_row {base g cap : Nat} {w : World} {l : List PartV} {i : Nat} (h : Owns base 151 3 prtC w (.slice (some ⟨g, 0, none⟩) l.length cap) l) (hi : i < l.length) :
    Owns base 151 3 prtC ((w.setCells g (i * 3) (movedP l i)).setCells g ((l.length - 1) * 3) zeroPt) (.slice (some ⟨g, 0, none⟩) (l.length - 1) cap) (l.eraseIdx i) := by
  have hml := movedP_len l i
  have hfl := flat_len prtC_len l
  have hzl : zeroPt.length = 3 := rfl
  have h1 := row_setCells (movedP l i) (i * 3) h (by rw [hml, hfl]; omega)
  have hl1 : ((l.flatMap prtC).take (i * 3) ++ movedP l i).length = (l.length - 1) * 3 := by rw [List.length_append, List.length_take, hml, hfl]; omega
  have h2 := row_setCells zeroPt ((l.length - 1) * 3) h1 (by rw [List.length_append, hl1, List.length_drop, hml, hfl, hzl]; omega)
  have h3 := row_shrink h2 (m := l.length - 1) (by omega)
  have e0 : (l.eraseIdx i).length = l.length - 1 := by rw [List.length_eraseIdx_of_lt hi]
  unfold Owns
  rw [e0]
  have e1 : (l.eraseIdx i).flatMap prtC = (l.flatMap prtC).take (i * 3) ++ movedP l i := by
    rw [List.eraseIdx_eq_take_drop_succ, List.flatMap_append, flat_take prtC_len]; rfl
  rw [e1]
  have e2 : (((l.flatMap prtC).take (i * 3) ++ movedP l i ++ (l.flatMap prtC).drop (i * 3 + (movedP l i).length)).take ((l.length - 1) * 3) ++ zeroPt ++ ((l.flatMap prtC).take (i * 3) ++ movedP l i ++ (l.flatMap prtC).drop (i * 3 + (movedP l i).length)).drop ((l.length - 1) * 3 + zeroPt.length)).take ((l.length - 1) * 3) = (l.flatMap prtC).take (i * 3) ++ movedP l i := by
    rw [List.take_append_of_le_length (by rw [List.length_append, List.length_take, List.length_append, hl1]; omega), List.take_append_of_le_length (by rw [List.length_take, List.length_append, hl1]; omega), List.take_take, Nat.min_self, List.take_append_of_le_length (by omega), List.take_of_length_le (by omega)]
  rw [e2] at h3
  exact h3
theorem clear_part (g o c : Nat) (w : World) (h : w.there g o 3) (ty : TypeId) : (Builtin.clear_ #[147] ty #[.slice (some ⟨g, o, none⟩) 1 c]).run Tryz.prog w = .ok (.tuple #[]) (w.setCells g o zeroPt) := by
  have hz : (zeroValue 151).run Tryz.prog w = .ok (.agg #[.bool false, .bool false, .string ⟨#[]⟩]) w := by kernel_rfl
  have hc : (Builtin.zeroCells (Value.agg #[.bool false, .bool false, .string ⟨#[]⟩]).cells 1).toList = zeroPt := by kernel_rfl
  have hs := run_storeCells_cells (P := Tryz.prog) g o zeroPt 0 w (fun j hj => by rw [Nat.add_zero]; exact (h j hj).1) (fun j hj => by rw [Nat.add_zero]; exact (h j hj).2) (by simp [zeroPt, Value.oneCell'])
  simp [Builtin.clear_, run_underlying Tryz.underlying147, hz, hc, hs]
set_option maxRecDepth 100000 in
set_option maxHeartbeats 4000000 in
theorem delete_any (base g cap : Nat) (l : List PartV) (i : Nat) (w : World) (hi : i < l.length) (hn : l.length ≤ 1000000) (h : Owns base 151 3 prtC w (.slice (some ⟨g, 0, none⟩) l.length cap) l) :
    Calls Tryz.prog 106 #[.slice (some ⟨g, 0, none⟩) l.length cap, .int .i64 i, .int .i64 ((i : Int) + 1)] w fun e w' => e = .returned (.slice (some ⟨g, 0, none⟩) (l.length - 1) cap) ∧
      Owns base 151 3 prtC w' (.slice (some ⟨g, 0, none⟩) (l.length - 1) cap) (l.eraseIdx i) ∧ w.grownBy w' (some g) := by
  have HO := Lib.hid h
  obtain ⟨hcp, hcm⟩ : l.length ≤ cap ∧ cap ≤ 9223372036854775807 := by
    rcases h.2 with ⟨h', -⟩ | ⟨g', cap', cur, h', -, -, h3, h4, -⟩
    · cases h'
    · cases h'; exact ⟨h3, h4⟩
  clear h
  obtain ⟨N, hN⟩ : ∃ N, N = l.length := ⟨_, rfl⟩
  rw [← hN] at hi hn hcp HO
  rw [← hN]
  have HNL := Lib.hid hN
  clear hN
  go_enter Tryz.func106, Tryz.ntmps106
  have p0 : (0 : Int) ≤ (i : Int) + 1 := by omega
  have p1 : (0 : Int) ≤ (i : Int) := by omega
  have p2 : (i : Int) ≤ (i : Int) + 1 := by omega
  have p3 : (i : Int) + 1 ≤ (N : Int) := by omega
  have p4 : (N : Int) ≤ (cap : Int) := by omega
  have p5 : ((i : Int) + 1).toNat = i + 1 := by omega
  have p6 : ((i : Int) == (i : Int) + 1) = false := by rw [beq_eq_false_iff_ne]; omega
  obtain ⟨i0, hi0, hz0, hz1, hz2⟩ := info_parts info_pt
  have hls : (movedP l i).length = (N - (i + 1)) * 3 := by rw [movedP_len, HNL.out]
  have HR : w.ownsRow base 151 3 (.slice (some ⟨g, 0, none⟩) N cap) N (l.flatMap prtC) := by have := HO.out; unfold Owns at this; rwa [← show N = l.length from HNL.out] at this
  have hrow : ∀ k, k < N * 3 → w.cell? ⟨g, k, none⟩ = (l.flatMap prtC)[k]? := fun k hk => World.ownsRow.cellAt HR k hk
  have hfl : (l.flatMap prtC).length = N * 3 := by rw [flat_len prtC_len, HNL.out]
  obtain ⟨A, hA, hnews⟩ : ∃ A : Addr, (if cap = i + 1 then some (⟨g, 0, none⟩ : Addr) else some ⟨g, (i + 1) * 3, none⟩) = some A ∧ Hid (∀ j u, (movedP l i)[j]? = some u → w.drew.cell? (A.add j) = some u) := by
    by_cases hc : cap = i + 1
    · refine ⟨⟨g, 0, none⟩, by simp [hc], fun j u hu => ?_⟩
      have := (List.getElem?_eq_some_iff.1 hu).1
      rw [hls] at this; omega
    · refine ⟨⟨g, (i + 1) * 3, none⟩, by simp [hc], fun j u hu => ?_⟩
      have hj := (List.getElem?_eq_some_iff.1 hu).1
      rw [hls] at hj
      rw [Addr.add_lit]
      refine (hrow _ (by omega)).trans ?_
      rw [← hu]
      unfold movedP
      rw [flat_drop prtC_len, List.getElem?_drop]
  have s1 : Hid ((movedP l i).length = (N - (i + 1)) * 3) := hls
  have s2 : Hid (∀ u ∈ movedP l i, u.oneCell' = true) := fun u hu => by
    obtain ⟨x, _, hx⟩ := List.mem_flatMap.1 hu
    exact prtC_one x u hx
  have s3 : Hid (∀ j, j < (movedP l i).length → (w.drew.cell? ⟨g, 0 + i * 3 + j, none⟩).isSome = true ∧ w.drew.frozen? ⟨g, 0 + i * 3 + j, none⟩ = false) := fun j hj => by
    rw [hls] at hj
    have hk : i * 3 + j < N * 3 := by omega
    refine ⟨?_, World.ownsRow.frozenAt HR _⟩
    show (w.cell? _).isSome = true
    rw [Nat.zero_add, hrow _ hk, List.getElem?_eq_getElem (by rw [hfl]; exact hk)]; rfl
  have hic : i ≤ cap := by omega
  have q1 : i + (N - (i + 1)) = N - 1 := by omega
  clear hls hrow hfl HR
  go_wp2_with fail
  go_region_law (refine step_append_room rfl (.tmp 22) (.tmp 25) 147 rfl 151 i0 3 Tryz.underlying147 hi0 hz1 g 0 i cap (by simp [Act.eval, Act.put]) A (N - (i + 1)) (cap - (i + 1)) (movedP l i) (by simp [Act.eval, Act.put]) s1.out hnews.out s2.out (by omega) s3.out ?_)
  have HW : Hid (Owns base 151 3 prtC ((w.drew.setCells g (i * 3) (movedP l i)).setCells g ((N - 1) * 3) zeroPt) (.slice (some ⟨g, 0, none⟩) (N - 1) cap) (l.eraseIdx i)) := by
    have h0 : Owns base 151 3 prtC w.drew (.slice (some ⟨g, 0, none⟩) l.length cap) l := by rw [← show N = l.length from HNL.out]; exact HO.out
    have := del_row h0 (i := i) (by rw [← show N = l.length from HNL.out]; exact hi)
    rwa [← show N = l.length from HNL.out] at this
  have HG : Hid (w.grownBy ((w.drew.setCells g (i * 3) (movedP l i)).setCells g ((N - 1) * 3) zeroPt) (some g)) := (⟨rfl, rfl, rfl, Nat.le_refl _, fun _ _ _ => rfl⟩ : w.grownBy w.drew (some g)).trans ((setCells_grown g _ _ _).trans (setCells_grown g _ _ _))
  have hth : (w.drew.setCells g (i * 3) (movedP l i)).there g ((N - 1) * 3) 3 := fun j hj => by
    have h0 : w.drew.ownsRow base 151 3 (.slice (some ⟨g, 0, none⟩) N cap) N (l.flatMap prtC) := by have := HO.out; unfold Owns at this; rwa [← show N = l.length from HNL.out] at this
    have hfl : (l.flatMap prtC).length = N * 3 := by rw [flat_len prtC_len, HNL.out]
    have h1 := row_setCells (movedP l i) (i * 3) h0 (by rw [s1.out, hfl]; omega)
    refine ⟨?_, World.ownsRow.frozenAt h1 _⟩
    rw [World.ownsRow.cellAt h1 _ (by omega), List.getElem?_eq_getElem (by rw [h1.1]; omega)]; rfl
  have hcl : ∀ ty, (Builtin.clear_ #[147] ty #[.slice (some ⟨g, (N - 1) * 3, none⟩) 1 (cap - (N - 1))]).run Tryz.prog (w.drew.setCells g (i * 3) (movedP l i)) = .ok (.tuple #[]) ((w.drew.setCells g (i * 3) (movedP l i)).setCells g ((N - 1) * 3) zeroPt) := fun ty => clear_part _ _ _ _ hth ty
  clear hnews s1 s2 s3 hA hth
  generalize (w.drew.setCells g (i * 3) (movedP l i)).setCells g ((N - 1) * 3) zeroPt = W2 at *
  generalize w.drew.setCells g (i * 3) (movedP l i) = W1 at *
  have r1 : decide (((N - 1 : Nat) : Int) ≤ (N : Int)) = true := decide_eq_true (by omega)
  have r2 : ((N - 1 : Nat) : Int) ≤ (N : Int) := by omega
  have r3 : N - (N - 1) = 1 := by omega
  have r4 : N - 1 ≤ N := by omega
  have r5 : (cap = N - 1) = False := eq_false (by omega)
  go_wp2
  go_ret
  exact ⟨rfl, HW.out, HG.out⟩

end Go.Proofs.YtecffghcpknmjaaGreatDoor
