/- General lemmas on texts as lists of bytes, own blocks and worlds; no program in sight. -/
import Derived.Test.YtecffghcpknmjaaGreatDoorOwn2
import Derived.Lib.Strings
namespace Go.Proofs.YtecffghcpknmjaaGreatDoor
open Go Go.RowKit

abbrev Bs := List UInt8
def bs (l : Bs) : S := ⟨l.toArray⟩
theorem bs_size (l : Bs) : (bs l).size = l.length := by simp [bs, ByteArray.size]
theorem bs_data (l : Bs) : (bs l).data.toList = l := by simp [bs]
theorem bs_inj {l m : Bs} (h : bs l = bs m) : l = m := by rw [← bs_data l, ← bs_data m, h]
theorem bs_append (l m : Bs) : bs l ++ bs m = bs (l ++ m) := by
  apply ByteArray.ext
  simp [bs, ByteArray.data_append]
theorem size_data (s : S) : s.data.toList.length = s.size := (Lib.size_eq s).symm
theorem drop_byte (s : S) (k : Nat) (h : k < s.size) : s.data.toList.drop k = s[k] :: s.data.toList.drop (k + 1) := by
  rw [List.drop_eq_getElem_cons (by simpa using h)]; rfl
theorem empty_data (s : S) : s.toList.isEmpty = decide (s.size = 0) := by
  have h : s.toList.length = s.size := by rw [ByteArray.toList_eq]; exact size_data s
  rw [← h]
  cases s.toList <;> simp
theorem take_byte (s : S) (k : Nat) (h : k < s.size) : s.data.toList.take (k + 1) = s.data.toList.take k ++ [s[k]] := by
  rw [List.take_succ_eq_append_getElem (by rw [size_data]; exact h)]; rfl
theorem wp_world {P : Program} {c : Code} {Q : Exit → Act → World → Prop} {a : Act} {w : World} (h : ∀ W, W = w → c.wp P Q a W) : c.wp P Q a w := h w rfl
theorem Calls.world {P : Program} {f : FuncId} {args : Array Value} {w : World} {R : Ending → World → Prop} (h : ∀ W, W = w → Calls P f args W R) : Calls P f args w R := h w rfl
theorem belowN {B : Nat} {w w' : World} (h : Below B w w') (n : Nat) : Below B w (w'.drewN n) := ⟨h.os, h.tape, h.output, h.size, fun k hk => h.block k hk⟩
theorem Box.set {w : World} {b : Nat} {cs : List Value} (h : Box w b cs) (j : Nat) (u : Value) : Box (w.setCell ⟨b, j, none⟩ u) b (cs.set j u) := by
  refine ⟨by simpa [World.setCell] using h.lt, fun i v hv => ?_, fun i => ?_⟩
  · rw [List.getElem?_set] at hv
    split at hv
    · rename_i hij
      subst hij
      split at hv
      · rename_i hlt
        cases hv
        have h1 := h.cell j cs[j] (by simp [hlt])
        exact World.cell?_setCell_same w _ _ h1
      · cases hv
    · rename_i hij
      rw [World.cell?_setCell_other w _ _ _ (by simp)]
      exact h.cell i v hv
  · have := h.free i
    simpa [World.frozen?_setCell] using this
theorem SliceOf.drewN {α : Type} {n : Nat} {C : α → List Value} {w : World} {v : Value} {l : List α} (h : SliceOf n C w v l) (k : Nat) : SliceOf n C (w.drewN k) v l :=
  h.below (belowN (Below.refl _ _) k)
theorem below_grown {b : Nat} {w w' : World} (h : w.grownBy w' (some b)) (hb : b ≤ w.heap.size) : Below b w w' := ⟨h.os, h.tape, h.output, h.size, fun k hk => h.block k (by omega) (by simp; omega)⟩

end Go.Proofs.YtecffghcpknmjaaGreatDoor
