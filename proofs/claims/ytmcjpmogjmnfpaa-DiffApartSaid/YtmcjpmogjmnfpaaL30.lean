/- Walks: the sort of pins, as it is used: an own row of pins holds them sorted; the conditions stand in the theorem. -/
import Derived.Test.YtmcjpmogjmnfpaaL29
import Derived.Shelf.SlSortCmp.NoneTotal
namespace Go.Proofs.Ytmcjpmogjmnfpaa
open Go Go.RowKit Go.Sort Go.Proofs

theorem flat_at (l : List Pin) {t : Nat} (h : t < l.length * 6) : (l.flatMap pinC)[t]? = some ((flatK pinC 6 l.toArray)[t]!) := by
  have hi : t / 6 < l.length := Nat.div_lt_of_lt_mul (by omega)
  have hr : t % 6 < 6 := Nat.mod_lt _ (by decide)
  have h1 := flat_get pinC_len l (t / 6) (t % 6) l[t / 6] (by simp [hi]) hr
  rw [Nat.div_add_mod' t 6] at h1
  rw [h1, get_flatK _ _ _ _ (by simpa using h)]
  have e : l.toArray[t / 6]! = l[t / 6] := by rw [getElem!_pos l.toArray (t / 6) (by simpa using hi)]; simp
  rw [e, getElem!_pos (pinC l[t / 6]) (t % 6) (by rw [pinC_len]; exact hr)]
  simp
theorem holds_own {l : List Pin} {g : Nat} {w : World} (h : ∀ t, t < l.length * 6 → w.cell? ⟨g, t, none⟩ = (l.flatMap pinC)[t]? ∧ w.frozen? ⟨g, t, none⟩ = false) : HoldsK pinC 6 w g 0 l.toArray := fun j hj => by
  have hj' : j < l.length * 6 := by simpa using hj
  rw [Nat.zero_add]
  exact ⟨by rw [(h j hj').1, flat_at l hj']; rfl, (h j hj').2⟩
theorem sortPins_any (l : List Pin) (v : Value) (w : World) (base : Nat) (ho : Owns base 44 6 pinC w v l) (hl : l.length ≤ 1000) :
    Calls Try.prog 33 #[v, .func (.func 34) #[] #[]] w fun e w' => e = .returned (.tuple #[]) ∧ ∃ s : List Pin, s.Perm l ∧ (s.Pairwise fun p q => cmpK p.key q.key ≠ 1) ∧ SliceOf 6 pinC w' v s ∧ w.grownBy w' v.ownBlock := by
  rcases id ho.2 with ⟨rfl, h0⟩ | ⟨g, cap, cur, rfl, hb, hg, hnc, hm, hcs, ht⟩
  · obtain rfl := List.eq_nil_of_length_eq_zero h0
    refine (AnyF.slices_SortFunc_none Try.sortPins none 0 _ w).mono ?_
    rintro e w' ⟨rfl, rfl⟩
    exact ⟨rfl, [], .nil, .nil, SliceOf.nil, World.grownBy.refl _ _⟩
  · have hblk : g < w.heap.size := (Array.getElem?_eq_some_iff.1 hg).1
    have hH : HoldsK pinC 6 w g 0 l.toArray := holds_own fun t h => ⟨World.ownsRow.cellAt ho t h, World.ownsRow.frozenAt ho t⟩
    have hr := sortPins_raw g 0 cap l.toArray w hH hblk (by simp; omega)
    rw [show l.toArray.size = l.length by simp] at hr
    refine hr.mono ?_
    rintro e w' ⟨rfl, d', n, os, hp, hs, rfl⟩
    have hsz : d'.size = l.length := by simpa using hp.1
    have hH' : HoldsK pinC 6 (sortWorldK pinC 6 w g 0 n d' os) g 0 d' := by
      unfold sortWorldK
      exact holds_grow _ _ _ _ _ _ (by simpa [putRowK, putRow, mapBlock, ahead] using hblk) (holds_putRow _ _ _ _ _ _ hH (by simp [hsz]))
    refine ⟨rfl, d'.toList, ?_, ?_, ?_, ?_⟩
    · have h1 : d'.toList.Perm (List.take d'.size l) := by simpa [← hsz] using hp.2.2
      rwa [hsz, List.take_length] at h1
    · rw [List.pairwise_iff_getElem]
      intro i j hi hj hij
      have hj' : j < d'.size := by simpa using hj
      have hi' : i < d'.size := by simpa using hi
      have h1 := hs i j (Nat.zero_le _) hij (by omega)
      rw [ltP, decide_eq_false_iff_not, getElem!_pos d' j hj', getElem!_pos d' i hi'] at h1
      have h2 := cmpK_anti d'[j].key d'[i].key
      simp only [Array.getElem_toList]
      omega
    · have hle : d'.toList.length = l.length := by simp [hsz]
      refine ⟨some ⟨g, 0, none⟩, cap, by rw [hle], by rw [hle]; exact hnc, hm, by simp, fun i x hx => ?_⟩
      have hi : i < d'.size := by simpa using (List.getElem?_eq_some_iff.1 hx).1
      refine ⟨g, 0, rfl, ?_, fun j u hu => ?_⟩
      · have h1 := (hH' 0 (by simp; omega)).1
        exact World.block_lt_of_cell? _ _ h1
      · have hj : j < 6 := by rw [← pinC_len x]; exact (List.getElem?_eq_some_iff.1 hu).1
        have hlt : i * 6 + j < d'.size * 6 := by omega
        have h1 := (hH' (i * 6 + j) (by simpa using hlt)).1
        rw [← Nat.add_assoc] at h1
        rw [h1]
        have h2 := flat_at d'.toList (t := i * 6 + j) (by simpa using hlt)
        rw [flat_get pinC_len d'.toList i j x hx hj, hu] at h2
        simpa using h2.symm
    · refine ⟨rfl, rfl, rfl, ?_, fun k hk hne => ?_⟩
      · simp [sortWorldK, grow, putRowK, putRow, mapBlock]
      · have hkg : k ≠ g := by simpa [Value.ownBlock] using hne
        simp only [sortWorldK]
        rw [heap_grow_old _ _ (by simpa [putRowK, putRow, mapBlock, ahead] using hk)]
        simp [putRowK, putRow, mapBlock, Array.getElem?_modify, Ne.symm hkg]

end Go.Proofs.Ytmcjpmogjmnfpaa
