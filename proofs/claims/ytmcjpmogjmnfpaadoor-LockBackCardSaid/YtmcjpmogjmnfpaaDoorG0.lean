/- General lemmas on texts as lists of bytes, own blocks and worlds; no program in sight. -/
import Derived.Test.YtmcjpmogjmnfpaaDoorOwn2
import Derived.Lib.Strings
namespace Go.Proofs.YtmcjpmogjmnfpaaDoor
open Go Go.RowKit

abbrev Bs := List UInt8
def bs (l : Bs) : S := ⟨l.toArray⟩
theorem bs_size (l : Bs) : (bs l).size = l.length := by simp [bs, ByteArray.size]
theorem bs_data (l : Bs) : (bs l).data.toList = l := by simp [bs]
theorem data_bs (s : S) : bs s.data.toList = s := Lib.mk_data s
theorem bs_inj {l m : Bs} (h : bs l = bs m) : l = m := by rw [← bs_data l, ← bs_data m, h]
theorem bs_extract (l : Bs) (a b : Nat) : (bs l).extract a b = bs ((l.drop a).take (b - a)) := by rw [Lib.extract_eq, bs_data]; rfl
theorem bs_append (l m : Bs) : bs l ++ bs m = bs (l ++ m) := by
  apply ByteArray.ext
  simp [bs, ByteArray.data_append]
theorem suf_tail {T r : Bs} {c : UInt8} (h : c :: r <:+ T) : r <:+ T := (List.suffix_cons c r).trans h
theorem size_data (s : S) : s.data.toList.length = s.size := (Lib.size_eq s).symm
theorem drop_byte (s : S) (k : Nat) (h : k < s.size) : s.data.toList.drop k = s[k] :: s.data.toList.drop (k + 1) := by
  rw [List.drop_eq_getElem_cons (by simpa using h)]; rfl
theorem empty_data (s : S) : s.toList.isEmpty = decide (s.size = 0) := by
  have h : s.toList.length = s.size := by rw [ByteArray.toList_eq]; exact size_data s
  rw [← h]
  cases s.toList <;> simp
theorem str_lit (s : S) (l : Bs) : (s.toList == l) = decide (s.data.toList = l) := by
  rw [ByteArray.toList_eq, Bool.eq_iff_iff]; simp
theorem bs_beq (a b : Bs) : ((bs a).toList == (bs b).toList) = decide (a = b) := by
  rw [ByteArray.toList_eq, ByteArray.toList_eq, bs_data, bs_data, Bool.eq_iff_iff]; simp
theorem bs_bne (a b : Bs) : ((bs a).toList != (bs b).toList) = !decide (a = b) := by rw [bne, bs_beq]
theorem ext_one (s : S) (k : Nat) (h : k < s.size) : s.extract k (k + 1) = bs [s[k]] := by
  have h1 : (s.extract k (k + 1)).data.toList = [s[k]] := by
    rw [Lib.extract_data, drop_byte s k h, Nat.add_sub_cancel_left]; rfl
  rw [← data_bs (s.extract k (k + 1)), h1]
theorem ext_cmp (s : S) (k : Nat) (h : k < s.size) (x : UInt8) : ((s.extract k (k + 1)).toList == [x]) = decide (s[k] = x) := by
  rw [str_lit, ext_one s k h, bs_data]; simp
theorem take_byte (s : S) (k : Nat) (h : k < s.size) : s.data.toList.take (k + 1) = s.data.toList.take k ++ [s[k]] := by
  rw [List.take_succ_eq_append_getElem (by rw [size_data]; exact h)]; rfl
theorem wp_world {P : Program} {c : Code} {Q : Exit → Act → World → Prop} {a : Act} {w : World} (h : ∀ W, W = w → c.wp P Q a W) : c.wp P Q a w := h w rfl
theorem Calls.world {P : Program} {f : FuncId} {args : Array Value} {w : World} {R : Ending → World → Prop} (h : ∀ W, W = w → Calls P f args W R) : Calls P f args w R := h w rfl
def Qt (v : Value) (w : World) (e : Ending) (w' : World) : Prop := e = .returned v ∧ ∃ n, w' = w.drewN n
theorem Qt.quiet {P : Program} {f : FuncId} {args : Array Value} {w : World} {n : Nat} {v : Value} (h : Calls P f args (w.drewN n) (Qt v (w.drewN n))) : Calls P f args (w.drewN n) fun e w'' => e = .returned v ∧ ∃ m, w'' = w.drewN m := Calls.quiet_of h
theorem quietS {P : Program} {f : FuncId} {args : Array Value} {w : World} {n : Nat} {v : Value}
    (h : Calls P f args (w.drewN n) fun e w' => e = .returned v ∧ w.drewN n = w') : Calls P f args (w.drewN n) fun e w'' => e = .returned v ∧ ∃ m, w'' = w.drewN m :=
  Calls.quiet_of_same (h.mono fun _ _ ⟨he, hm⟩ => ⟨he, hm.symm⟩)
theorem belowN {B : Nat} {w w' : World} (h : Below B w w') (n : Nat) : Below B w (w'.drewN n) := ⟨h.os, h.tape, h.output, h.size, fun k hk => h.block k hk⟩
theorem grownN (w : World) (n : Nat) (row : Option Nat) : w.grownBy (w.drewN n) row := ⟨rfl, rfl, rfl, Nat.le_refl _, fun _ _ _ => rfl⟩
theorem grownOf {w w' : World} (h : Below w.heap.size w w') (row : Option Nat) : w.grownBy w' row := ⟨h.os, h.tape, h.output, h.size, fun k hk _ => h.block k hk⟩
theorem grown_below {w x w' : World} {B : Nat} {row : Option Nat} (h : w.grownBy x row) (hb : Below B x w') (hB : w.heap.size ≤ B) : w.grownBy w' row :=
  ⟨hb.os.trans h.os, hb.tape.trans h.tape, hb.output.trans h.output, Nat.le_trans h.size hb.size, fun k hk hne => (hb.block k (by omega)).trans (h.block k hk hne)⟩
theorem grown_other {w W W' : World} {r : Option Nat} {N : Nat} (h : w.grownBy W r) (hg : W.grownBy W' (some N)) (hN : w.heap.size ≤ N) : w.grownBy W' r :=
  ⟨hg.os.trans h.os, hg.tape.trans h.tape, hg.output.trans h.output, Nat.le_trans h.size hg.size, fun k hk hne => (hg.block k (Nat.lt_of_lt_of_le hk h.size) (by intro e; cases e; omega)).trans (h.block k hk hne)⟩
theorem Box.grownB {w w' : World} {b : Nat} {cs : List Value} {r : Nat} (h : Box w b cs) (hg : w.grownBy w' (some r)) (hne : b ≠ r) : Box w' b cs := h.grown hg (by simpa using hne)
theorem Box.set {w : World} {b : Nat} {cs : List Value} (h : Box w b cs) (j : Nat) (u : Value) : Box (w.setCell ⟨b, j, none⟩ u) b (cs.set j u) := by
  refine ⟨by simpa [World.setCell] using h.lt, fun i v hv => ?_, fun i => ?_⟩
  · rw [List.getElem?_set] at hv
    split at hv
    · rename_i hij
      subst hij
      split at hv
      · rename_i hlt
        cases hv
        have h1 := h.cell j cs[j] (by simp [hlt])
        exact World.cell?_setCell_same w _ _ h1
      · cases hv
    · rename_i hij
      rw [World.cell?_setCell_other w _ _ _ (by simp)]
      exact h.cell i v hv
  · have := h.free i
    simpa [World.frozen?_setCell] using this
theorem SliceOf.drewN {α : Type} {n : Nat} {C : α → List Value} {w : World} {v : Value} {l : List α} (h : SliceOf n C w v l) (k : Nat) : SliceOf n C (w.drewN k) v l :=
  h.below (belowN (Below.refl _ _) k)
theorem below_grown {b : Nat} {w w' : World} (h : w.grownBy w' (some b)) (hb : b ≤ w.heap.size) : Below b w w' := ⟨h.os, h.tape, h.output, h.size, fun k hk => h.block k (by omega) (by simp; omega)⟩
theorem own_types {α β : Type} {b1 b2 E1 E2 n1 n2 : Nat} {C1 : α → List Value} {C2 : β → List Value} {w : World} {v1 v2 : Value} {l1 : List α} {l2 : List β} (h1 : Owns b1 E1 n1 C1 w v1 l1) (h2 : Owns b2 E2 n2 C2 w v2 l2) (hE : E1 ≠ E2) : v1.ownBlock = none ∨ v1.ownBlock ≠ v2.ownBlock := by
  rcases h1.2 with ⟨rfl, -⟩ | ⟨g, cap, cur, rfl, -, hg, -⟩
  · exact .inl rfl
  · right
    rcases h2.2 with ⟨rfl, -⟩ | ⟨g2, cap2, cur2, rfl, -, hg2, -⟩
    · simp [Value.ownBlock]
    · intro e
      simp only [Value.ownBlock, Option.some.injEq] at e
      subst e
      rw [hg] at hg2
      simp only [Option.some.injEq, Obj.cells.injEq] at hg2
      exact hE hg2.2.1

end Go.Proofs.YtmcjpmogjmnfpaaDoor
