/- What the second loop of All does: each token gets its line and column; plain facts on memory; no walk. -/
import Derived.Test.YtpchljiiappmnaaK27
namespace Go.Proofs.Ytpchljiiappmnaa
open Go Go.RowKit

def fillT (s : S) (x : TkM) : TkM := { x with line := (lineCol (s.data.toList.take x.off.toNat)).1, col := (lineCol (s.data.toList.take x.off.toNat)).2 }

theorem Vars.setHigh {W : World} {B : Nat} {s : S} {v1 v2 p0 p1 p2 : Value} (h : Vars W B s v1 v2 p0 p1 p2) {g : Nat} (hg : B + 3 < g) (j : Nat) (u : Value) : Vars (W.setCell ⟨g, j, none⟩ u) B s v1 v2 p0 p1 p2 :=
  ⟨h.x0.grownB (setCell_grown _ g j _) (by omega), h.x1.grownB (setCell_grown _ g j _) (by omega), h.x2.grownB (setCell_grown _ g j _) (by omega), h.x3.grownB (setCell_grown _ g j _) (by omega)⟩

/-- What the second loop has done so far. -/
structure Places (w wr : World) (s : S) (ao : Option Addr) (cap : Nat) (L : List TkM) (k : Nat) : Prop where
  rd : Rd wr (w.heap.size + 4) s [] (.slice ao L.length cap)
  vars : Vars wr w.heap.size s (.slice none 0 0) (.int .i64 0) (.int .i64 0) (.int .i64 0) (.int .i64 0)
  below : Below w.heap.size w wr
  own : Owns (w.heap.size + 5) 34 7 tkC wr (.slice ao L.length cap) ((L.take k).map (fillT s) ++ L.drop k)
  att : ∀ x ∈ (L.take k).map (fillT s) ++ L.drop k, Owns (w.heap.size + 5) 43 2 atC wr x.av x.t.attrs

theorem fill_get {s : S} {L : List TkM} {k : Nat} (hk : k < L.length) : ((L.take k).map (fillT s) ++ L.drop k)[k]? = some L[k] := by
  rw [List.getElem?_append_right (by simp; omega)]
  simp [Nat.min_eq_left (Nat.le_of_lt hk)]
theorem fill_set {s : S} {L : List TkM} {k : Nat} (hk : k < L.length) : ((L.take k).map (fillT s) ++ L.drop k).set k (fillT s L[k]) = (L.take (k + 1)).map (fillT s) ++ L.drop (k + 1) := by
  have hl : ((L.take k).map (fillT s)).length = k := by simp; omega
  rw [List.set_append_right _ _ (by omega), hl, Nat.sub_self, List.drop_eq_getElem_cons hk, List.set_cons_zero, List.take_succ_eq_append_getElem hk, List.map_append]
  simp

theorem Places.step {w wr : World} {s : S} {g cap : Nat} {L : List TkM} {k : Nat} (h : Places w wr s (some ⟨g, 0, none⟩) cap L k) (hk : k < L.length) (hg : w.heap.size + 5 ≤ g) :
    Places w ((wr.setCell ⟨g, k * 7 + 5, none⟩ (.int .i64 (fillT s L[k]).line)).setCell ⟨g, k * 7 + 6, none⟩ (.int .i64 (fillT s L[k]).col)) s (some ⟨g, 0, none⟩) cap L (k + 1) := by
  have hlen : ((L.take k).map (fillT s) ++ L.drop k).length = L.length := by simp; omega
  have ho1 : Owns (w.heap.size + 5) 34 7 tkC wr (.slice (some ⟨g, 0, none⟩) ((L.take k).map (fillT s) ++ L.drop k).length cap) ((L.take k).map (fillT s) ++ L.drop k) := by rw [hlen]; exact h.own
  obtain ⟨g1, e1, -, -, -, -, -, hst1⟩ := own_store (j := 5) tkC_len ho1 (fill_get hk) (by decide)
  cases e1
  have ho2 := hst1 (.int .i64 (fillT s L[k]).line) { L[k] with line := (fillT s L[k]).line } rfl
  have hget2 : (((L.take k).map (fillT s) ++ L.drop k).set k { L[k] with line := (fillT s L[k]).line })[k]? = some { L[k] with line := (fillT s L[k]).line } := by
    rw [List.getElem?_set, if_pos rfl, if_pos (by rw [hlen]; exact hk)]
  obtain ⟨g2, e2, -, -, -, -, -, hst2⟩ := own_store (j := 6) tkC_len ho2 hget2 (by decide)
  cases e2
  have ho3 := hst2 (.int .i64 (fillT s L[k]).col) (fillT s L[k]) rfl
  rw [List.set_set, fill_set hk] at ho3
  have hl3 : ((L.take (k + 1)).map (fillT s) ++ L.drop (k + 1)).length = L.length := by simp; omega
  refine ⟨(h.rd.setOther (by omega) _ _).setOther (by omega) _ _, (h.vars.setHigh (by omega) _ _).setHigh (by omega) _ _, (h.below.setCell (p := ⟨g, _, none⟩) (by simp; omega) _).setCell (p := ⟨g, _, none⟩) (by simp; omega) _, ?_, ?_⟩
  · rw [hlen] at ho3; exact ho3
  · intro x hx
    have hx' : ∃ y ∈ (L.take k).map (fillT s) ++ L.drop k, y.av = x.av ∧ y.t = x.t := by
      rw [← fill_set hk] at hx
      obtain ⟨i, hi, rfl⟩ := List.mem_iff_getElem.1 hx
      rw [List.length_set] at hi
      rw [List.getElem_set]
      split
      · exact ⟨L[k], List.mem_of_getElem? (fill_get hk), rfl, rfl⟩
      · exact ⟨_, List.getElem_mem hi, rfl, rfl⟩
    obtain ⟨y, hy, ha, ht⟩ := hx'
    have h1 := h.att y hy
    rw [ha, ht] at h1
    have hne := own_types h1 h.own (by decide)
    have h2 := h1.kept (setCell_grown wr g (k * 7 + 5) (.int .i64 (fillT s L[k]).line)) hne
    exact h2.kept (setCell_grown _ g (k * 7 + 6) (.int .i64 (fillT s L[k]).col)) hne

end Go.Proofs.Ytpchljiiappmnaa
