/- Plain laws on a text that is n times the letter x, and memory that is such a text; no program in sight. -/
import Derived.Test.YtpchljiiappmnaaK29
import Derived.Laws.MakeOwn
import Derived.Laws.IdiomStrings
namespace Go.Proofs.Ytpchljiiappmnaa
open Go Go.RowKit

def xs (n : Nat) : Bs := List.replicate n 120
theorem lettersGo_xs (n : Nat) : lettersGo 60 0 (xs n) = .ok (xs n) [] := by
  induction n with
  | zero => rfl
  | succ n ih =>
    show lettersGo 60 0 (120 :: xs n) = .ok (120 :: xs n) []
    simp only [lettersGo]
    rw [if_neg (by decide), if_neg (by decide), if_neg (by decide), ih]
    rfl
theorem tokenR_xs (n : Nat) : tokenR true (xs (n + 1)) = .ok ⟨4, [], [], xs (n + 1)⟩ [] := by
  show tokenR true (120 :: xs n) = .ok ⟨4, [], [], 120 :: xs n⟩ []
  have h := lettersGo_xs (n + 1)
  have h1 : sNote.isPrefixOf (120 :: xs n) = false := by simp [sNote, List.isPrefixOf]
  have h2 : sData.isPrefixOf (120 :: xs n) = false := by simp [sData, List.isPrefixOf]
  have h3 : isHead (120 :: xs n) = false := by simp [isHead, sHead, List.isPrefixOf]
  unfold tokenR
  rw [h1, h2, h3]
  simp only [Bool.false_eq_true, if_false, Bool.and_false]
  show (lettersGo 60 0 (xs (n + 1))).map _ = _
  rw [h]; rfl
theorem allR_xs (n : Nat) : allR (xs (n + 1)) = .ok [(⟨4, [], [], xs (n + 1)⟩, xs (n + 1))] [] := by
  have h := tokenR_xs n
  unfold allR
  have hl : (xs (n + 1)).length = n + 1 := by simp [xs]
  rw [hl]
  show allGo (n + 1) true [] (120 :: xs n) = _
  simp only [allGo]
  show (match tokenR true (xs (n + 1)) with | .ok t r => allGo n false ([] ++ [(t, xs (n + 1))]) r | .bad e r => .bad e r) = _
  rw [h]
  cases n <;> rfl
theorem allR_none : allR (xs 0) = .ok [] [] := rfl

def xS (n : Nat) : S := bs (xs n)
theorem xS_data (n : Nat) : (xS n).data.toList = xs n := by simp [xS, bs]
theorem xS_size (n : Nat) : (xS n).size = n := by rw [← size_data, xS_data]; simp [xs]

/-- So many bytes of a block are x, the others are 0. -/
structure Xs (W : World) (g n k : Nat) : Prop where
  at_ : ∀ j, j < n → W.cell? ⟨g, j, none⟩ = some (.int .u8 (if j < k then 120 else 0))
  free : ∀ j, W.frozen? ⟨g, j, none⟩ = false
  lt : g < W.heap.size

theorem Xs.made (w : World) (n e : Nat) : Xs (w.alloc (.cells (madeCells #[.int .u8 0] n) e)) w.heap.size n 0 := by
  refine ⟨fun j hj => ?_, fun j => ?_, by simp⟩
  · rw [World.cell?_alloc_mark]
    simp [madeCells, hj, Nat.mod_one]
  · simp [World.frozen?_alloc_mark w (madeCells #[.int .u8 0] n) e 0 0 j]
theorem Xs.below {W W' : World} {g n k B : Nat} (h : Xs W g n k) (hb : Below B W W') (hg : g < B) : Xs W' g n k :=
  ⟨fun j hj => (hb.cell (by exact hg)).trans (h.at_ j hj), fun j => (hb.frozen (by exact hg)).trans (h.free j), Nat.lt_of_lt_of_le h.lt hb.size⟩
theorem Xs.store {W : World} {g n k : Nat} (h : Xs W g n k) (hk : k < n) : Xs (W.setCell ⟨g, k, none⟩ (.int .u8 120)) g n (k + 1) := by
  refine ⟨fun j hj => ?_, fun j => ?_, by simpa using h.lt⟩
  · by_cases e : j = k
    · subst e
      rw [World.cell?_setCell_same _ _ _ (h.at_ j hj), if_pos (Nat.lt_succ_self _)]
    · rw [World.cell?_setCell_other _ _ _ _ (by intro e2; exact e (by simpa using e2.symm)), h.at_ j hj]
      by_cases h1 : j < k
      · rw [if_pos h1, if_pos (by omega)]
      · rw [if_neg h1, if_neg (by omega)]
  · simpa using h.free j
theorem Xs.string {W : World} {g n : Nat} (h : Xs W g n n) (cap : Nat) : (convert 47 9 (.slice (some ⟨g, 0, none⟩) n cap)).run Try.prog W = .ok (.string (xS n)) W := by
  have := run_convert_bytes_back (P := Try.prog) W 47 9 5 ⟨g, 0, none⟩ cap (xs n) Try.underlying47 Try.underlying5 Try.underlying9 (fun j hj => by
    have hj' : j < n := by simpa [xs] using hj
    have := h.at_ j hj'
    rw [if_pos hj'] at this
    have ha : (⟨g, 0, none⟩ : Addr).add j = ⟨g, j, none⟩ := by unfold Addr.add; split <;> simp_all
    rw [ha]
    simpa [xs] using this)
  have hl : (xs n).length = n := by simp [xs]
  rw [hl] at this
  exact this

end Go.Proofs.Ytpchljiiappmnaa
