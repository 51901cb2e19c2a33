/- The base: what slices of structs are in memory; the data of the layers; no program in sight. -/
import Derived.WalkKit
import Derived.Lib.Hide
import Derived.Deep.QuietTactic
import Derived.BigQuiet
import Derived.Laws.AppendOwnNone
import Derived.Maps.AppendAt
import Derived.OwnWalk
import Derived.Lib.Strings
import Derived.Lib.Index
import Derived.Lib.LastIndexByte
import Derived.Lib.LastIndexLaws
namespace Go.Proofs.YtphaeegbmfpcgaaGreatDoor
open Go Go.RowKit

/-- A slice value that reads as the list l, each element taking n cells, these being C x. -/
def SliceOf {α : Type} (n : Nat) (C : α → List Value) (w : World) (v : Value) (l : List α) : Prop :=
 ∃ ao cap, v = .slice ao l.length cap ∧ l.length ≤ cap ∧ cap ≤ maxLen ∧ (ao = none → cap = 0) ∧
  ∀ i x, l[i]? = some x → ∃ b o, ao = some ⟨b, o, none⟩ ∧ b < w.heap.size ∧ ∀ j u, (C x)[j]? = some u → w.cell? ⟨b, o + i * n + j, none⟩ = some u
theorem SliceOf.below {α : Type} {n : Nat} {C : α → List Value} {w w' : World} {v : Value} {l : List α} (h : SliceOf n C w v l) (hb : Below w.heap.size w w') : SliceOf n C w' v l := by
 obtain ⟨ao, cap, h1, h2, hm, h3, h4⟩ := h
 refine ⟨ao, cap, h1, h2, hm, h3, fun i x hx => ?_⟩
 obtain ⟨b, o, ha, hlt, hc⟩ := h4 i x hx
 exact ⟨b, o, ha, Nat.lt_of_lt_of_le hlt hb.size, fun j u hu => (hb.cell (by exact hlt)).trans (hc j u hu)⟩
theorem SliceOf.nil {α : Type} {n : Nat} {C : α → List Value} {w : World} : SliceOf n C w (.slice none 0 0) ([] : List α) :=
 ⟨none, 0, rfl, Nat.le_refl _, Nat.zero_le _, fun _ => rfl, fun i x h => by simp at h⟩
theorem SliceOf.shape {α : Type} {n : Nat} {C : α → List Value} {w : World} {v : Value} {l : List α} (h : SliceOf n C w v l) : ∃ ao cap, v = .slice ao l.length cap := by
 obtain ⟨ao, cap, h1, _⟩ := h; exact ⟨ao, cap, h1⟩
theorem SliceOf.at {α : Type} {n : Nat} {C : α → List Value} {w : World} {ao : Option Addr} {len cap : Nat} {l : List α} (h : SliceOf n C w (.slice ao len cap) l) {k : Nat} (hk : k < l.length) :
    ∃ b o, ao = some ⟨b, o, none⟩ ∧ b < w.heap.size ∧ ∀ j u, (C l[k])[j]? = some u → w.cell? ⟨b, o + k * n + j, none⟩ = some u := by
 obtain ⟨ao', cap', h1, h2, hm, h3, h4⟩ := h
 cases h1
 exact h4 k l[k] (by simp [hk])
/-- A block of the call's own (a variable): it holds cs and may be written. -/
structure Box (w : World) (b : Nat) (cs : List Value) : Prop where
 lt : b < w.heap.size
 cell : ∀ j u, cs[j]? = some u → w.cell? ⟨b, j, none⟩ = some u
 free : ∀ j, w.frozen? ⟨b, j, none⟩ = false
theorem Box.new (w : World) (cs : List Value) (T : TypeId) (H : Nat) (hH : w.heap.size = H) : Box (w.alloc (.cells cs.toArray T)) H cs := by
 subst hH
 refine ⟨by simp, fun j u h => ?_, fun j => ?_⟩
 · rw [cell_of_row _ w.heap.size j _ T (0, 0) (heap_alloc_new w _)]; simpa using h
 · have h := heap_alloc_new w (.cells cs.toArray T)
   simp only [World.frozen?, h]; simp
theorem Box.below {w w' : World} {b B : Nat} {cs : List Value} (h : Box w b cs) (hb : Below B w w') (hlt : b < B) : Box w' b cs :=
 ⟨Nat.lt_of_lt_of_le h.lt hb.size, fun j u hu => (hb.cell (by exact hlt)).trans (h.cell j u hu), fun j => (hb.frozen (by exact hlt)).trans (h.free j)⟩
theorem Box.alloc {w : World} {b : Nat} {cs : List Value} (h : Box w b cs) (o : Obj) : Box (w.alloc o) b cs :=
 h.below ((Below.refl w.heap.size w).alloc (Nat.le_refl _) o) h.lt
theorem Box.drewN {w : World} {b : Nat} {cs : List Value} (h : Box w b cs) (n : Nat) : Box (w.drewN n) b cs := ⟨h.lt, h.cell, h.free⟩
theorem Box.grown {w w' : World} {b : Nat} {cs : List Value} {row : Option Nat} (h : Box w b cs) (hg : w.grownBy w' row) (hne : some b ≠ row) : Box w' b cs :=
 ⟨Nat.lt_of_lt_of_le h.lt hg.size, fun j u hu => (World.cell?_of_block (by exact hg.block b h.lt hne)).trans (h.cell j u hu), fun j => (World.frozen?_of_block (by exact hg.block b h.lt hne)).trans (h.free j)⟩
/-- A world behind w: nothing that was there has turned. The class of worlds in which a region that only reads, and calls what only makes memory, is walked once. -/
structure Later (w : World) where
 at_ : World
 below : Below w.heap.size w at_
instance laterInhabited (w : World) : Inhabited (Later w) := ⟨⟨w, Below.refl _ _⟩⟩
theorem ret_bool {a b : Bool} (h : a = b) : Ending.returned (.bool a) = .returned (.bool b) := by rw [h]
theorem ret_int {k : IntKind} {a b : Int} (h : a = b) : Ending.returned (.int k a) = .returned (.int k b) := by rw [h]
theorem drop_cons' {α : Type} {l : List α} {k : Nat} (h : k < l.length) : l.drop k = l[k] :: l.drop (k + 1) := List.drop_eq_getElem_cons h
abbrev S := ByteArray
/-- Whether a text is empty: the walk's form. -/
def isE (s : S) : Bool := s.toList.isEmpty
structure Id where
 group : S
 artifact : S
 deriving DecidableEq
structure Gav where
 group : S
 artifact : S
 version : S
 deriving DecidableEq
structure Key where
 group : S
 artifact : S
 type : S
 classifier : S
 deriving DecidableEq
structure Prp where
 name : S
 value : S
 deriving DecidableEq
structure Dep where
 group : S
 artifact : S
 version : S
 type : S
 classifier : S
 scope : Int
 opt : Int
 excl : List Id
 deriving DecidableEq
structure Pom where
 hasParent : Bool
 parent : Gav
 group : S
 artifact : S
 version : S
 packaging : S
 props : List Prp
 managed : List Dep
 deps : List Dep
 deriving DecidableEq
def strC (s : S) : List Value := [.string s]
def idC (x : Id) : List Value := [.string x.group, .string x.artifact]
def gavC (x : Gav) : List Value := [.string x.group, .string x.artifact, .string x.version]
def prpC (x : Prp) : List Value := [.string x.name, .string x.value]
def depC (p : Dep × Value) : List Value := [.string p.1.group, .string p.1.artifact, .string p.1.version, .string p.1.type, .string p.1.classifier, .int .i64 p.1.scope, .int .i64 p.1.opt, p.2]
/-- The slices in a list of dependencies read as they should. -/
def DepOk (w : World) (p : Dep × Value) : Prop := SliceOf 2 idC w p.2 p.1.excl
theorem DepOk.shape {w : World} {d : Dep} {x : Value} (h : DepOk w (d, x)) : ∃ ao cap, x = .slice ao d.excl.length cap := SliceOf.shape h
/-- A project's cells: its three slices' values besides. -/
def pomC (p : Pom) (pv mv dv : Value) : List Value :=
 [.bool p.hasParent, .string p.parent.group, .string p.parent.artifact, .string p.parent.version, .string p.group, .string p.artifact, .string p.version, .string p.packaging, pv, mv, dv]
def jar : S := ⟨#[106, 97, 114]⟩
def keyOf (d : Dep) : Key := ⟨d.group, d.artifact, if isE d.type then jar else d.type, d.classifier⟩
def has : List Dep → Key → Bool
 | [], _ => false
 | d :: l, k => decide (keyOf d = k) || has l k
def at_ : Nat → List Prp → S → Int
 | _, [], _ => -1
 | i, p :: l, n => if p.name = n then i else at_ (i + 1) l n

theorem bxc3 {w : World} {b : Nat} {v0 v1 v2 : Value} {r : List Value} (h : Box w b (v0 :: v1 :: v2 :: r)) : w.cell? ⟨b, 0, none⟩ = some v0 ∧ w.cell? ⟨b, 1, none⟩ = some v1 ∧ w.cell? ⟨b, 2, none⟩ = some v2 :=
 ⟨h.cell 0 _ rfl, h.cell 1 _ rfl, h.cell 2 _ rfl⟩
theorem bxc4 {w : World} {b : Nat} {v0 v1 v2 v3 : Value} {r : List Value} (h : Box w b (v0 :: v1 :: v2 :: v3 :: r)) : w.cell? ⟨b, 0, none⟩ = some v0 ∧ w.cell? ⟨b, 1, none⟩ = some v1 ∧ w.cell? ⟨b, 2, none⟩ = some v2 ∧ w.cell? ⟨b, 3, none⟩ = some v3 :=
 ⟨h.cell 0 _ rfl, h.cell 1 _ rfl, h.cell 2 _ rfl, h.cell 3 _ rfl⟩
theorem bxc5 {w : World} {b : Nat} {v0 v1 v2 v3 v4 : Value} {r : List Value} (h : Box w b (v0 :: v1 :: v2 :: v3 :: v4 :: r)) : w.cell? ⟨b, 0, none⟩ = some v0 ∧ w.cell? ⟨b, 1, none⟩ = some v1 ∧ w.cell? ⟨b, 2, none⟩ = some v2 ∧ w.cell? ⟨b, 3, none⟩ = some v3 ∧ w.cell? ⟨b, 4, none⟩ = some v4 :=
 ⟨h.cell 0 _ rfl, h.cell 1 _ rfl, h.cell 2 _ rfl, h.cell 3 _ rfl, h.cell 4 _ rfl⟩
theorem bxc7 {w : World} {b : Nat} {v0 v1 v2 v3 v4 v5 v6 : Value} {r : List Value} (h : Box w b (v0 :: v1 :: v2 :: v3 :: v4 :: v5 :: v6 :: r)) : w.cell? ⟨b, 0, none⟩ = some v0 ∧ w.cell? ⟨b, 1, none⟩ = some v1 ∧ w.cell? ⟨b, 2, none⟩ = some v2 ∧ w.cell? ⟨b, 3, none⟩ = some v3 ∧ w.cell? ⟨b, 4, none⟩ = some v4 ∧ w.cell? ⟨b, 5, none⟩ = some v5 ∧ w.cell? ⟨b, 6, none⟩ = some v6 :=
 ⟨h.cell 0 _ rfl, h.cell 1 _ rfl, h.cell 2 _ rfl, h.cell 3 _ rfl, h.cell 4 _ rfl, h.cell 5 _ rfl, h.cell 6 _ rfl⟩
theorem bxc8 {w : World} {b : Nat} {v0 v1 v2 v3 v4 v5 v6 v7 : Value} {r : List Value} (h : Box w b (v0 :: v1 :: v2 :: v3 :: v4 :: v5 :: v6 :: v7 :: r)) : w.cell? ⟨b, 0, none⟩ = some v0 ∧ w.cell? ⟨b, 1, none⟩ = some v1 ∧ w.cell? ⟨b, 2, none⟩ = some v2 ∧ w.cell? ⟨b, 3, none⟩ = some v3 ∧ w.cell? ⟨b, 4, none⟩ = some v4 ∧ w.cell? ⟨b, 5, none⟩ = some v5 ∧ w.cell? ⟨b, 6, none⟩ = some v6 ∧ w.cell? ⟨b, 7, none⟩ = some v7 :=
 ⟨h.cell 0 _ rfl, h.cell 1 _ rfl, h.cell 2 _ rfl, h.cell 3 _ rfl, h.cell 4 _ rfl, h.cell 5 _ rfl, h.cell 6 _ rfl, h.cell 7 _ rfl⟩
theorem bxc11 {w : World} {b : Nat} {v0 v1 v2 v3 v4 v5 v6 v7 v8 v9 v10 : Value} {r : List Value} (h : Box w b (v0 :: v1 :: v2 :: v3 :: v4 :: v5 :: v6 :: v7 :: v8 :: v9 :: v10 :: r)) : w.cell? ⟨b, 0, none⟩ = some v0 ∧ w.cell? ⟨b, 1, none⟩ = some v1 ∧ w.cell? ⟨b, 2, none⟩ = some v2 ∧ w.cell? ⟨b, 3, none⟩ = some v3 ∧ w.cell? ⟨b, 4, none⟩ = some v4 ∧ w.cell? ⟨b, 5, none⟩ = some v5 ∧ w.cell? ⟨b, 6, none⟩ = some v6 ∧ w.cell? ⟨b, 7, none⟩ = some v7 ∧ w.cell? ⟨b, 8, none⟩ = some v8 ∧ w.cell? ⟨b, 9, none⟩ = some v9 ∧ w.cell? ⟨b, 10, none⟩ = some v10 :=
 ⟨h.cell 0 _ rfl, h.cell 1 _ rfl, h.cell 2 _ rfl, h.cell 3 _ rfl, h.cell 4 _ rfl, h.cell 5 _ rfl, h.cell 6 _ rfl, h.cell 7 _ rfl, h.cell 8 _ rfl, h.cell 9 _ rfl, h.cell 10 _ rfl⟩

end Go.Proofs.YtphaeegbmfpcgaaGreatDoor

/- Slices that the call itself has made: ownership, append, stores; no program in sight. -/
namespace Go.Proofs.YtphaeegbmfpcgaaGreatDoor
open Go Go.RowKit

theorem flat_get {α : Type} {C : α → List Value} {n : Nat} (hC : ∀ x, (C x).length = n) : ∀ (l : List α) (i j : Nat) (x : α), l[i]? = some x → j < n → (l.flatMap C)[i * n + j]? = (C x)[j]?
 | [], i, j, x, h, _ => by simp at h
 | y :: l, 0, j, x, h, hj => by
  simp at h; subst h
  rw [List.flatMap_cons, List.getElem?_append_left (by rw [hC]; omega)]; simp
 | y :: l, i + 1, j, x, h, hj => by
  have h' : l[i]? = some x := by simpa using h
  rw [List.flatMap_cons, List.getElem?_append_right (by rw [hC, Nat.add_mul]; omega), hC, ← flat_get hC l i j x h' hj]
  congr 1
  rw [Nat.add_mul]; omega
theorem flat_len {α : Type} {C : α → List Value} {n : Nat} (hC : ∀ x, (C x).length = n) (l : List α) : (l.flatMap C).length = l.length * n := by
 induction l with
 | nil => simp
 | cons x l ih => rw [List.flatMap_cons, List.length_append, hC, ih, List.length_cons, Nat.add_mul]; omega
theorem flat_split {α : Type} {C : α → List Value} {n : Nat} (hC : ∀ x, (C x).length = n) (hn : 0 < n) {l : List α} {j : Nat} {u : Value} (h : (l.flatMap C)[j]? = some u) :
    ∃ x, l[j / n]? = some x ∧ (C x)[j % n]? = some u := by
 have hj : j < (l.flatMap C).length := (List.getElem?_eq_some_iff.1 h).1
 rw [flat_len hC] at hj
 have hd : j / n < l.length := Nat.div_lt_of_lt_mul (by rw [Nat.mul_comm]; exact hj)
 refine ⟨l[j / n], by simp [hd], ?_⟩
 rw [← flat_get hC l (j / n) (j % n) l[j / n] (by simp [hd]) (Nat.mod_lt _ hn), Nat.div_add_mod' j n]
 exact h
/-- The slice value v owns the list l: it is nil, or begins at the head of a row of the call's own. -/
def Owns {α : Type} (base : Nat) (E : TypeId) (n : Nat) (C : α → List Value) (w : World) (v : Value) (l : List α) : Prop := w.ownsRow base E n v l.length (l.flatMap C)
theorem Owns.slice {α : Type} {base : Nat} {E : TypeId} {n : Nat} {C : α → List Value} {w : World} {v : Value} {l : List α} (h : Owns base E n C w v l) (hC : ∀ x, (C x).length = n) : SliceOf n C w v l := by
 obtain ⟨h1, h2⟩ := h
 rcases h2 with ⟨rfl, h0⟩ | ⟨g, cap, cur, rfl, hb, hg, hnc, hm, hcs, ht⟩
 · obtain rfl := List.eq_nil_of_length_eq_zero h0
   exact SliceOf.nil
 · refine ⟨_, cap, rfl, hnc, hm, by simp, fun i x hx => ⟨g, 0, rfl, (Array.getElem?_eq_some_iff.1 hg).1, fun j u hu => ?_⟩⟩
   have hj : j < n := by rw [← hC x]; exact (List.getElem?_eq_some_iff.1 hu).1
   have hi : i < l.length := (List.getElem?_eq_some_iff.1 hx).1
   have hlt : i * n + j < l.length * n := by
    have : (i + 1) * n ≤ l.length * n := Nat.mul_le_mul_right _ hi
    rw [Nat.add_mul] at this; omega
   rw [Nat.zero_add, cell_of_row w g _ cur E (0, 0) hg]
   have := flat_get hC l i j x hx hj
   rw [← ht, List.getElem?_take, if_pos hlt, hu] at this
   simpa using this
theorem Owns.shape {α : Type} {base : Nat} {E : TypeId} {n : Nat} {C : α → List Value} {w : World} {v : Value} {l : List α} (h : Owns base E n C w v l) : ∃ ao cap, v = .slice ao l.length cap := by
 rcases h.2 with ⟨rfl, h0⟩ | ⟨g, cap, cur, rfl, _⟩
 · exact ⟨none, 0, by rw [h0]⟩
 · exact ⟨_, _, rfl⟩
theorem Owns.nil {α : Type} {base : Nat} {E : TypeId} {n : Nat} {C : α → List Value} {w : World} : Owns base E n C w (.slice none 0 0) ([] : List α) := World.ownsRow_nil _ _ _ _
theorem Owns.empty {α : Type} {base : Nat} {E : TypeId} {n : Nat} {C : α → List Value} {w : World} {H : Nat} (hH : w.heap.size = H) (hb : base ≤ H) : Owns base E n C (w.alloc (.cells #[] E)) (.slice (some ⟨H, 0, none⟩) 0 0) ([] : List α) := by
 subst hH
 exact World.ownsRow_made w #[] 0 hb (Nat.zero_le _) (by simp)
theorem Owns.base_mono {α : Type} {base base' : Nat} {E : TypeId} {n : Nat} {C : α → List Value} {w : World} {v : Value} {l : List α} (h : Owns base E n C w v l) (hb : base' ≤ base) : Owns base' E n C w v l := by
 refine ⟨h.1, ?_⟩
 rcases h.2 with h | ⟨g, cap, cur, h1, h2, h3⟩
 · exact .inl h
 · exact .inr ⟨g, cap, cur, h1, Nat.le_trans hb h2, h3⟩
theorem Owns.kept {α : Type} {base : Nat} {E : TypeId} {n : Nat} {C : α → List Value} {w w' : World} {v : Value} {l : List α} {row : Option Nat} (h : Owns base E n C w v l) (hg : w.grownBy w' row) (hne : v.ownBlock = none ∨ v.ownBlock ≠ row) : Owns base E n C w' v l :=
 World.ownsRow.kept h hg hne
theorem Owns.below {α : Type} {base : Nat} {E : TypeId} {n : Nat} {C : α → List Value} {w w' : World} {v : Value} {l : List α} (h : Owns base E n C w v l) (hb : Below w.heap.size w w') : Owns base E n C w' v l :=
 h.kept (row := none) ⟨hb.os, hb.tape, hb.output, hb.size, fun k hk _ => hb.block k hk⟩ (by cases v.ownBlock <;> simp)
theorem Owns.alloc {α : Type} {base : Nat} {E : TypeId} {n : Nat} {C : α → List Value} {w : World} {v : Value} {l : List α} (h : Owns base E n C w v l) (o : Obj) : Owns base E n C (w.alloc o) v l :=
 h.below ((Below.refl _ _).alloc (Nat.le_refl _) _)
theorem Owns.lt {α : Type} {base : Nat} {E : TypeId} {n : Nat} {C : α → List Value} {w : World} {v : Value} {l : List α} (h : Owns base E n C w v l) : ∀ k, v.ownBlock = some k → base ≤ k ∧ k < w.heap.size := World.ownsRow.lt h
/-- A slice literal, just made. -/
theorem sliceLit {α : Type} {n : Nat} {C : α → List Value} (hC : ∀ x, (C x).length = n) (w : World) (l : List α) (T : TypeId) (H k : Nat) (hH : w.heap.size = H) (hk : k = l.length) (hl : l.length ≤ maxLen) :
    SliceOf n C (w.alloc (.cells (l.flatMap C).toArray T)) (.slice (some ⟨H, 0, none⟩) k k) l := by
 subst hH; subst hk
 refine ⟨_, _, rfl, Nat.le_refl _, hl, by simp, fun i x hx => ⟨_, _, rfl, by simp, fun j u hu => ?_⟩⟩
 have hj : j < n := by rw [← hC x]; exact (List.getElem?_eq_some_iff.1 hu).1
 rw [cell_of_row (w.alloc (.cells (l.flatMap C).toArray T)) w.heap.size _ _ T (0, 0) (heap_alloc_new w _)]
 rw [Nat.zero_add]
 simp only [List.getElem?_toArray]
 rw [flat_get hC l i j x hx hj, hu]
/-- append of any slice to one of the call's own. -/
theorem wpList_append_slice {α : Type} {P : Program} (w : World) {ops : Array Oper} {rest : List Oper} {o : Oper} {a : Act} {Q : Exit → Act → World → Prop} (hgd : o.guard = none) (s x : Operand) (t : TypeId)
    (ho : o.op = .call { callee := .builtin .append, args := #[s, x], argTypes := #[t, t] })
    (base : Nat) (e : TypeId) {z : Value} {size bytes : Nat} (ht : P.underlying t = some (.slice e)) (hinfo : (P.info? e).map (fun i => (i.zero, i.size, i.bytes)) = some (some z, size, bytes)) (hzs : z.cells.size = size) (hsz : 0 < size) {C : α → List Value} (hC : ∀ y, (C y).length = size)
    (v : Value) (l : List α) (hs : a.eval s = v) (hown : Owns base e size C w v l) (v2 : Value) (l2 : List α) (hx : a.eval x = v2) (hsl : SliceOf size C w v2 l2) (h1 : ∀ y ∈ l2, ∀ u ∈ C y, u.oneCell' = true)
    (hbytes : (l.length + l2.length) * bytes ≤ 140737488355328) (hb0 : 0 < bytes) (hbase : base ≤ w.heap.size)
    (h : ∀ v' w', Owns base e size C w' v' (l ++ l2) → w.grownBy w' v.ownBlock → (v'.ownBlock = v.ownBlock ∨ v'.ownBlock = some w.heap.size) → wpList P ops Q rest (a.put o.dst v') w') : wpList P ops Q (o :: rest) a w := by
 have hlen63 : l.length + l2.length ≤ maxLen := by
  have : l.length + l2.length ≤ (l.length + l2.length) * bytes := Nat.le_mul_of_pos_right _ hb0
  unfold maxLen; omega
 obtain ⟨i, hi, hz, hsize, hby⟩ := info_parts hinfo
 obtain ⟨ao, cap, rfl, hcap, hm, hn, hc⟩ := hsl
 cases ao with
 | none =>
  have h0 : cap = 0 := hn rfl
  subst h0
  obtain rfl := List.eq_nil_of_length_eq_zero (Nat.le_zero.1 hcap)
  exact wpList_append_own_none hgd s x t ho base e i size ht hi v l.length (l.flatMap C) hs hown hx (h v w (by simpa using hown) (World.grownBy.refl _ _) (.inl rfl))
 | some ad =>
  refine wpList_plain hgd fun K hK => ?_
  have hnews : ∀ j u, (l2.flatMap C)[j]? = some u → w.cell? (ad.add j) = some u := by
   intro j u hu
   obtain ⟨y, hy, hyu⟩ := flat_split hC hsz hu
   obtain ⟨b, o', ha, _, hcell⟩ := hc _ _ hy
   cases ha
   rw [Addr.add_lit]
   have := hcell _ _ hyu
   rwa [Nat.add_assoc, Nat.div_add_mod' j size] at this
  obtain ⟨v', w', hr, h2, h3, h4, hloc⟩ := run_append_own_at (P := P) w base t o.type e i z size bytes ht hi hz hsize hby hzs hsz v l.length (l.flatMap C) hown ad l2.length cap (l2.flatMap C) (by rw [flat_len hC]) hnews
   (by intro u hu; obtain ⟨y, hy, huy⟩ := List.mem_flatMap.1 hu; exact h1 y hy u huy) hlen63 hbytes hbase
  unfold Oper.wp execOp
  simp only [ho, resolve, invoke, builtin, Sem.run_bind, Sem.run_pure, Result.andThen_ok, List.map_toArray, List.map_cons, List.map_nil, hs, hx, hr]
  exact hK _ _ (h v' w' (by unfold Owns; rw [List.length_append, List.flatMap_append]; exact h2) h3 hloc)

end Go.Proofs.YtphaeegbmfpcgaaGreatDoor

/- Maps whose keys are structs: what lookup, mapUpdate and the frame of an update are, for any program, key type and values; no program in sight. -/

namespace Go.Proofs.YtphaeegbmfpcgaaGreatDoor
open Go Go.RowKit

structure MEnt (K : Type) where
 key : K
 val : Value
 born : Nat
def MEnt.ent {K : Type} (kc : K → Value) (e : MEnt K) : MapEntry := { key := kc e.key, val := e.val, born := e.born }
/-- Block m holds a map of these entries. -/
def MMap {K : Type} (kc : K → Value) (w : World) (m : Nat) (L : List (MEnt K)) (c : Nat) : Prop := w.heap[m]? = some (.map (L.map (MEnt.ent kc)).toArray c)
/-- What the keys of a map must do: a struct type, its equality, its check. -/
structure MKey {K : Type} [DecidableEq K] (P : Program) (tk : TypeId) (kc : K → Value) : Prop where
 str : ∃ fs, P.underlying tk = some (.struct fs)
 eq : ∀ (a b : K) (w : World), (Op.equal tk (kc a) (kc b)).run P w = .ok (decide (a = b)) w
 chk : ∀ (b : Bool) (k : K) (w : World), (Instr.checkKey b 10000 tk (kc k)).run P w = .ok () w
def mIdx {K : Type} [DecidableEq K] (L : List (MEnt K)) (k : K) : Option Nat := L.findIdx? (fun e => decide (k = e.key))
def mGet {K : Type} [DecidableEq K] (L : List (MEnt K)) (k : K) : Option Value := (L.find? (fun e => decide (k = e.key))).map (·.val)
theorem mGet_idx {K : Type} [DecidableEq K] (L : List (MEnt K)) (k : K) : ((mIdx L k).bind fun j => (L[j]?).map fun e => e.val) = mGet L k := by
 unfold mIdx mGet
 induction L with
 | nil => rfl
 | cons e L ih =>
  rw [List.findIdx?_cons, List.find?_cons]
  cases decide (k = e.key) with
  | true => simp
  | false =>
   rw [← ih]
   cases L.findIdx? (fun e => decide (k = e.key)) <;> simp
theorem mIdx_none {K : Type} [DecidableEq K] {L : List (MEnt K)} {k : K} : mIdx L k = none ↔ mGet L k = none := by
 unfold mIdx mGet
 rw [Option.map_eq_none_iff, List.findIdx?_eq_none_iff, List.find?_eq_none]
 simp
theorem run_findAskingM {K : Type} [DecidableEq K] {P : Program} {tk : TypeId} {kc : K → Value} (hk : MKey P tk kc) (k : K) (w : World) : ∀ (L : List (MEnt K)) (i : Nat), (Instr.findAsking tk (kc k) (L.map (MEnt.ent kc)) i).run P w =
    .ok ((mIdx L k).bind fun j => (L[j]?).map fun e => (i + j, e.val)) w
 | [], i => by simp [Instr.findAsking, mIdx]
 | e :: L, i => by
  simp only [List.map_cons, Instr.findAsking, Sem.run_bind, MEnt.ent, hk.eq, Result.andThen_ok, mIdx, List.findIdx?_cons]
  by_cases h : k = e.key
  · simp [h]
  · simp only [h, decide_false, Bool.false_eq_true, if_false]
    have ih := run_findAskingM hk k w L (i + 1)
    unfold mIdx at ih
    rw [ih]
    congr 1
    cases L.findIdx? (fun e => decide (k = e.key)) <;> simp [Nat.add_assoc, Nat.add_comm 1]
theorem run_findKeyM {K : Type} [DecidableEq K] {P : Program} {tk : TypeId} {kc : K → Value} (hk : MKey P tk kc) (k : K) (w : World) (L : List (MEnt K)) : (Instr.findKey tk (kc k) (L.map (MEnt.ent kc))).run P w =
    .ok ((mIdx L k).bind fun j => (L[j]?).map fun e => (j, e.val)) w := by
 obtain ⟨fs, hu⟩ := hk.str
 simp only [Instr.findKey, Sem.run_bind, run_underlying hu, Result.andThen_ok]
 cases L with
 | nil => simp [Instr.findNow, mIdx]
 | cons e L =>
  have h := run_findAskingM hk k w (e :: L) 0
  simp only [Nat.zero_add] at h
  simp only [List.map_cons, Instr.findNow, MEnt.ent, Instr.sameNow] at h ⊢
  exact h
theorem run_lookupM {K : Type} [DecidableEq K] {P : Program} {tk te tm : TypeId} {kc : K → Value} (hk : MKey P tk kc) (ht : P.underlying tm = some (.map tk te)) {z : Value} (hz : ∀ w, (zeroValue te).run P w = .ok z w) {w : World} {m : Nat} {L : List (MEnt K)} {c : Nat} (k : K) (h : MMap kc w m L c) :
    (Instr.lookup tm (.map (some m)) (kc k) false).run P w = .ok ((mGet L k).getD z) w := by
 simp only [Instr.lookup, Sem.run_bind, run_underlying ht, Result.andThen_ok]
 have hg : (getObj m).run P w = .ok (.map (L.map (MEnt.ent kc)).toArray c) w := by simp [getObj, Sem.run, show w.heap[m]? = _ from h]
 simp only [hg, Sem.run_bind, Result.andThen_ok, Sem.run_pure, hk.chk, run_findKeyM hk]
 rw [← mGet_idx]
 cases hj : mIdx L k with
 | none => simp [hz]
 | some j =>
  have hlt : j < L.length := by
   unfold mIdx at hj
   have := List.findIdx?_eq_some_iff_findIdx_eq.1 hj; omega
  simp [hlt]
def mSet {K : Type} (kc : K → Value) (w : World) (m : Nat) (L : List (MEnt K)) (c : Nat) : World := { w with heap := w.heap.setIfInBounds m (.map (L.map (MEnt.ent kc)).toArray c) }
theorem run_updateM_new {K : Type} [DecidableEq K] {P : Program} {tk te tm : TypeId} {kc : K → Value} (hk : MKey P tk kc) (ht : P.underlying tm = some (.map tk te)) {w : World} {m : Nat} {L : List (MEnt K)} {c : Nat} (k : K) (v : Value) (h : MMap kc w m L c) (hn : mIdx L k = none) :
    (Instr.mapUpdate tm (.map (some m)) (kc k) v).run P w = .ok () (mSet kc w m (L ++ [⟨k, v, c⟩]) (c + 1)) := by
 simp only [Instr.mapUpdate, Sem.run_bind, run_underlying ht, Result.andThen_ok]
 have hg : (getObj m).run P w = .ok (.map (L.map (MEnt.ent kc)).toArray c) w := by simp [getObj, Sem.run, show w.heap[m]? = _ from h]
 have hset : ∀ o, (setObj m o).run P w = .ok () { w with heap := w.heap.setIfInBounds m o } := fun o => by simp [setObj, Sem.run, show w.heap[m]? = _ from h]
 simp only [hg, Sem.run_bind, Result.andThen_ok, hk.chk, run_findKeyM hk, hn]
 simp [hset, mSet, MEnt.ent]
theorem MMap.lt {K : Type} {kc : K → Value} {w : World} {m : Nat} {L : List (MEnt K)} {c : Nat} (h : MMap kc w m L c) : m < w.heap.size := (Array.getElem?_eq_some_iff.1 h).1
theorem mSet_is {K : Type} {kc : K → Value} {w : World} {m : Nat} {L L' : List (MEnt K)} {c c' : Nat} (h : MMap kc w m L c) : MMap kc (mSet kc w m L' c') m L' c' := by
 have := h.lt
 simp [MMap, mSet, this]
theorem mSet_grown {K : Type} {kc : K → Value} (w : World) (m : Nat) (L : List (MEnt K)) (c : Nat) : w.grownBy (mSet kc w m L c) (some m) :=
 ⟨rfl, rfl, rfl, by simp [mSet], fun k _ hne => by
  have : m ≠ k := fun e => hne (by rw [e])
  simp [mSet, this]⟩
theorem MMap.grown {K : Type} {kc : K → Value} {w w' : World} {m : Nat} {L : List (MEnt K)} {c : Nat} {row : Option Nat} (h : MMap kc w m L c) (hg : w.grownBy w' row) (hne : some m ≠ row) : MMap kc w' m L c := (hg.block m h.lt hne).trans h
theorem MMap.below {K : Type} {kc : K → Value} {w w' : World} {m : Nat} {L : List (MEnt K)} {c B : Nat} (h : MMap kc w m L c) (hb : Below B w w') (hm : m < B) : MMap kc w' m L c := (hb.block m hm).trans h

end Go.Proofs.YtphaeegbmfpcgaaGreatDoor

/- Maps whose keys are structs: an entry written again, what is found behind an update; blocks of which some may turn; no program in sight. -/

namespace Go.Proofs.YtphaeegbmfpcgaaGreatDoor
open Go Go.RowKit

def mPut {K : Type} [DecidableEq K] (L : List (MEnt K)) (k : K) (v : Value) (c : Nat) : List (MEnt K) := match mIdx L k with
 | some j => L.modify j fun e => { e with val := v }
 | none => L ++ [⟨k, v, c⟩]
def mCnt {K : Type} [DecidableEq K] (L : List (MEnt K)) (k : K) (c : Nat) : Nat := if (mIdx L k).isSome then c else c + 1
theorem mIdx_some {K : Type} [DecidableEq K] {L : List (MEnt K)} {k : K} {j : Nat} (h : mIdx L k = some j) : ∃ hj : j < L.length, L[j].key = k := by
 obtain ⟨hj, hjk, -⟩ := List.findIdx?_eq_some_iff_getElem.1 h
 exact ⟨hj, by simpa using (of_decide_eq_true hjk).symm⟩
theorem run_updateM {K : Type} [DecidableEq K] {P : Program} {tk te tm : TypeId} {kc : K → Value} (hk : MKey P tk kc) (hs : ∀ k, Instr.sameBits 10000 (kc k) (kc k) = true) (ht : P.underlying tm = some (.map tk te)) {w : World} {m : Nat} {L : List (MEnt K)} {c : Nat} (k : K) (v : Value) (h : MMap kc w m L c) :
    (Instr.mapUpdate tm (.map (some m)) (kc k) v).run P w = .ok () (mSet kc w m (mPut L k v c) (mCnt L k c)) := by
 cases hn : mIdx L k with
 | none =>
  have e1 : mPut L k v c = L ++ [⟨k, v, c⟩] := by simp [mPut, hn]
  have e2 : mCnt L k c = c + 1 := by simp [mCnt, hn]
  rw [e1, e2]
  exact run_updateM_new hk ht k v h hn
 | some j =>
  obtain ⟨hj, hkey⟩ := mIdx_some hn
  have e1 : mPut L k v c = L.modify j fun e => { e with val := v } := by simp [mPut, hn]
  have e2 : mCnt L k c = c := by simp [mCnt, hn]
  rw [e1, e2]
  simp only [Instr.mapUpdate, Sem.run_bind, run_underlying ht, Result.andThen_ok]
  have hg : (getObj m).run P w = .ok (.map (L.map (MEnt.ent kc)).toArray c) w := by simp [getObj, Sem.run, show w.heap[m]? = _ from h]
  have hset : ∀ o, (setObj m o).run P w = .ok () { w with heap := w.heap.setIfInBounds m o } := fun o => by simp [setObj, Sem.run, show w.heap[m]? = _ from h]
  simp only [hg, Sem.run_bind, Result.andThen_ok, hk.chk, run_findKeyM hk, hn]
  have hke : Instr.keyThatStays (kc L[j].key) (kc k) = (pure (kc k) : Sem Value) := by
   unfold Instr.keyThatStays
   rw [hkey, if_pos (hs k)]
  have hl : ((L.map (MEnt.ent kc)).modify j fun e => { key := kc k, val := v, born := e.born }) = (L.modify j fun e => { e with val := v }).map (MEnt.ent kc) := by
   apply List.ext_getElem?
   intro i
   simp only [List.getElem?_modify, List.getElem?_map]
   by_cases hi : j = i
   · subst hi
     simp [hj, MEnt.ent, hkey]
   · simp [hi]
  simp [hj, MEnt.ent, hke, hset, mSet]
  congr 2
  simpa [MEnt.ent] using hl
theorem mGet_cons {K : Type} [DecidableEq K] (e : MEnt K) (L : List (MEnt K)) (k : K) : mGet (e :: L) k = if k = e.key then some e.val else mGet L k := by
 unfold mGet
 rw [List.find?_cons]
 by_cases h : k = e.key <;> simp [h]
theorem mGet_append {K : Type} [DecidableEq K] (L M : List (MEnt K)) (k : K) : mGet (L ++ M) k = (mGet L k).or (mGet M k) := by
 induction L with
 | nil => simp [mGet]
 | cons e L ih =>
  rw [List.cons_append, mGet_cons, mGet_cons, ih]
  split <;> simp
theorem mIdx_cons {K : Type} [DecidableEq K] (e : MEnt K) (L : List (MEnt K)) (k : K) : mIdx (e :: L) k = if k = e.key then some 0 else (mIdx L k).map (· + 1) := by
 unfold mIdx
 rw [List.findIdx?_cons]
 by_cases h : k = e.key <;> simp [h]
theorem mGet_put {K : Type} [DecidableEq K] (L : List (MEnt K)) (k : K) (v : Value) (c : Nat) (k' : K) : mGet (mPut L k v c) k' = if k' = k then some v else mGet L k' := by
 cases hn : mIdx L k with
 | none =>
  have e1 : mPut L k v c = L ++ [⟨k, v, c⟩] := by simp [mPut, hn]
  have hg := mIdx_none.1 hn
  rw [e1, mGet_append, mGet_cons]
  by_cases h : k' = k
  · subst h; simp [hg]
  · simp [h, mGet]
 | some j =>
  have e1 : mPut L k v c = L.modify j fun e => { e with val := v } := by simp [mPut, hn]
  rw [e1]
  clear e1
  induction L generalizing j with
  | nil => simp [mIdx] at hn
  | cons e L ih =>
   rw [mIdx_cons] at hn
   by_cases h : k = e.key
   · rw [if_pos h] at hn
     cases hn
     rw [List.modify_cons, if_pos rfl, mGet_cons, mGet_cons]
     simp only [← h]
     by_cases h2 : k' = k <;> simp [h2]
   · rw [if_neg h] at hn
     obtain ⟨i, hi, rfl⟩ := Option.map_eq_some_iff.1 hn
     rw [List.modify_cons, if_neg (by omega), mGet_cons, mGet_cons, Nat.add_sub_cancel, ih i hi]
     by_cases h2 : k' = e.key
     · have : ¬ k' = k := fun e3 => h (e3.symm.trans h2)
       simp [h2, show ¬ e.key = k from fun e3 => h e3.symm]
     · simp [h2]
/-- Of the blocks that there were only those of F may have turned. -/
structure Only (F : Nat → Prop) (w w' : World) : Prop where
 os : w'.os = w.os
 tape : w'.tape = w.tape
 output : w'.output = w.output
 size : w.heap.size ≤ w'.heap.size
 block : ∀ k, k < w.heap.size → ¬ F k → w'.heap[k]? = w.heap[k]?
theorem Only.refl (F : Nat → Prop) (w : World) : Only F w w := ⟨rfl, rfl, rfl, Nat.le_refl _, fun _ _ _ => rfl⟩
theorem Only.trans {F G : Nat → Prop} {a b c : World} (h : Only F a b) (k : Only G b c) (hG : ∀ k, k < a.heap.size → G k → F k) : Only F a c :=
 ⟨k.os.trans h.os, k.tape.trans h.tape, k.output.trans h.output, Nat.le_trans h.size k.size, fun i hi hF => (k.block i (Nat.lt_of_lt_of_le hi h.size) (fun h => hF (hG i hi h))).trans (h.block i hi hF)⟩
theorem Only.of {F : Nat → Prop} {w w' : World} (h : Below w.heap.size w w') : Only F w w' := ⟨h.os, h.tape, h.output, h.size, fun k hk _ => h.block k hk⟩
theorem Only.grown {F : Nat → Prop} {w w' : World} {row : Option Nat} (h : w.grownBy w' row) (hr : ∀ k, row = some k → F k) : Only F w w' :=
 ⟨h.os, h.tape, h.output, h.size, fun k hk hF => h.block k hk fun e => hF (hr k e.symm)⟩
theorem Only.below {F : Nat → Prop} {B : Nat} {w w' : World} (h : Only F w w') (hB : B ≤ w.heap.size) (hF : ∀ k, F k → B ≤ k) : Below B w w' :=
 ⟨h.os, h.tape, h.output, h.size, fun k hk => h.block k (by omega) fun e => by have := hF k e; omega⟩
theorem Only.mono {F G : Nat → Prop} {w w' : World} (h : Only F w w') (hG : ∀ k, k < w.heap.size → F k → G k) : Only G w w' := ⟨h.os, h.tape, h.output, h.size, fun k hk hg => h.block k hk fun e => hg (hG k hk e)⟩
theorem Box.only {F : Nat → Prop} {w w' : World} {b : Nat} {cs : List Value} (h : Box w b cs) (ho : Only F w w') (hb : ¬ F b) : Box w' b cs :=
 ⟨Nat.lt_of_lt_of_le h.lt ho.size, fun j u hu => (World.cell?_of_block (by exact ho.block b h.lt hb)).trans (h.cell j u hu), fun j => (World.frozen?_of_block (by exact ho.block b h.lt hb)).trans (h.free j)⟩
theorem MMap.only {K : Type} {kc : K → Value} {F : Nat → Prop} {w w' : World} {m : Nat} {L : List (MEnt K)} {c : Nat} (h : MMap kc w m L c) (ho : Only F w w') (hb : ¬ F m) : MMap kc w' m L c := (ho.block m h.lt hb).trans h
theorem Owns.only {α : Type} {F : Nat → Prop} {base : Nat} {E : TypeId} {n : Nat} {C : α → List Value} {w w' : World} {v : Value} {l : List α} (h : Owns base E n C w v l) (ho : Only F w w') (hb : ∀ k, v.ownBlock = some k → ¬ F k) : Owns base E n C w' v l := by
 have hlt := h.lt
 obtain ⟨h1, h2⟩ := h
 refine ⟨h1, ?_⟩
 rcases h2 with h2 | ⟨g, cap, cur, rfl, hg, hc, h3⟩
 · exact .inl h2
 · exact .inr ⟨g, cap, cur, rfl, hg, (ho.block g (hlt g rfl).2 (hb g rfl)).trans hc, h3⟩

end Go.Proofs.YtphaeegbmfpcgaaGreatDoor

/- What a text is cut into, as plain functions on lists of bytes; no program in sight. -/

namespace Go.Proofs.YtphaeegbmfpcgaaGreatDoor
open Go Go.RowKit

abbrev Bs := List UInt8
def bs (l : Bs) : S := ⟨l.toArray⟩
def cBlank (c : UInt8) : Bool := c.toNat == 32 || c.toNat == 9 || c.toNat == 10 || c.toNat == 13
def cDigit (c : UInt8) : Bool := decide (48 ≤ c.toNat) && decide (c.toNat ≤ 57)
def cFirst (c : UInt8) : Bool := (decide (65 ≤ c.toNat) && decide (c.toNat ≤ 90)) || (decide (97 ≤ c.toNat) && decide (c.toNat ≤ 122)) || c.toNat == 95
def cName (c : UInt8) : Bool := cFirst c || cDigit c || c.toNat == 46 || c.toNat == 45 || c.toNat == 58
def cText (c : UInt8) : Bool := decide (32 ≤ c.toNat) || cBlank c
def cLower (c : UInt8) : Bool := decide (97 ≤ c.toNat) && decide (c.toNat ≤ 122)
def span (p : UInt8 → Bool) : Bs → Nat
 | [] => 0
 | c :: l => if p c then span p l + 1 else 0
def nameLen : Bs → Nat
 | [] => 0
 | c :: l => if cFirst c then span cName (c :: l) else 0
/-! References. -/
inductive RefR where
 | ok (t : Bs) (n : Nat)
 | bad (e : Int)
/-- The value of a digit to the base 16 (hex) or 10; -1: it is none. -/
def digitV (c : UInt8) (hex : Bool) : Int :=
 if cDigit c then c.toNat - 48 else if hex && decide (97 ≤ c.toNat) && decide (c.toNat ≤ 102) then c.toNat - 87 else if hex && decide (65 ≤ c.toNat) && decide (c.toNat ≤ 70) then c.toNat - 55 else -1
def isDig (hex : Bool) (c : UInt8) : Bool := decide (0 ≤ digitV c hex)
def baseOf (hex : Bool) : Int := if hex then 16 else 10
def numV (hex : Bool) (l : Bs) : Int := l.foldl (fun k c => k * baseOf hex + digitV c hex) 0
def okLetter (n : Int) : Bool := decide (n = 9 ∨ n = 10 ∨ n = 13 ∨ (32 ≤ n ∧ n ≤ 1114111 ∧ ¬ (55296 ≤ n ∧ n ≤ 57343)))
def letterN (c : Nat) : Bs :=
 if c < 128 then [UInt8.ofNat c]
 else if c < 2048 then [UInt8.ofNat (192 + c / 64), UInt8.ofNat (128 + c % 64)]
 else if c < 65536 then [UInt8.ofNat (224 + c / 4096), UInt8.ofNat (128 + c / 64 % 64), UInt8.ofNat (128 + c % 64)]
 else [UInt8.ofNat (240 + c / 262144), UInt8.ofNat (128 + c / 4096 % 64), UInt8.ofNat (128 + c / 64 % 64), UInt8.ofNat (128 + c % 64)]
def letterB (n : Int) : Bs := letterN n.toNat
/-- A reference by a number: s stands behind the & and # (and x), ahead bytes. -/
def numRef (hex : Bool) (ahead : Nat) (s : Bs) : RefR :=
 if 8 < span (isDig hex) s then .bad 12
 else if span (isDig hex) s = s.length then .bad 13
 else if span (isDig hex) s = 0 ∨ s[span (isDig hex) s]? ≠ some 59 then .bad 12
 else if okLetter (numV hex (s.take (span (isDig hex) s))) then .ok (letterB (numV hex (s.take (span (isDig hex) s)))) (ahead + span (isDig hex) s + 1)
 else .bad 12
def wLt : Bs := [108, 116]
def wGt : Bs := [103, 116]
def wAmp : Bs := [97, 109, 112]
def wQuot : Bs := [113, 117, 111, 116]
def wApos : Bs := [97, 112, 111, 115]
def named (w : Bs) : Option UInt8 :=
 if w = wLt then some 60 else if w = wGt then some 62 else if w = wAmp then some 38 else if w = wQuot then some 34 else if w = wApos then some 39 else none
def refSpec : Bs → RefR
 | [] => .bad 13
 | c :: r => if c ≠ 38 then .bad 12 else match r with
  | 35 :: r' => (match r' with
   | 120 :: r'' => numRef true 3 r''
   | _ => numRef false 2 r')
  | _ =>
   if span cLower r = r.length then
    if r.isPrefixOf wLt || r.isPrefixOf wGt || r.isPrefixOf wAmp || r.isPrefixOf wQuot || r.isPrefixOf wApos then .bad 13 else .bad 12
   else match named (r.take (span cLower r)) with
    | some t => if r[span cLower r]? = some 59 then .ok [t] (span cLower r + 2) else .bad 12
    | none => .bad 12
/-! The reader. A result: a value and what is left; an error and where it is (what stands from there on). -/
inductive Res (α : Type) where
 | ok (a : α) (r : Bs)
 | bad (e : Int) (r : Bs)
def Res.map {α β : Type} (f : α → β) : Res α → Res β
 | .ok a r => .ok (f a) r
 | .bad e r => .bad e r
def Res.bind {α β : Type} (f : α → Bs → Res β) : Res α → Res β
 | .ok a r => f a r
 | .bad e r => .bad e r
def blanks : Bs → Bs
 | [] => []
 | c :: l => if cBlank c then blanks l else c :: l
def wantC (c : UInt8) : Bs → Res Unit
 | [] => .bad 13 []
 | x :: l => if x = c then .ok () l else .bad 10 (x :: l)
def nameR (e : Int) : Bs → Res Bs
 | [] => .bad 13 []
 | c :: l => if nameLen (c :: l) = 0 then .bad e (c :: l) else .ok ((c :: l).take (nameLen (c :: l))) ((c :: l).drop (nameLen (c :: l)))
/-- What stands up to an end, which is gone past, byte by byte. -/
def plain (til : Bs) : Bs → Res Bs
 | [] => if til.isPrefixOf [] then .ok [] (([] : Bs).drop til.length) else .bad 13 []
 | c :: l => if til.isPrefixOf (c :: l) then .ok [] ((c :: l).drop til.length) else if cText c then (plain til l).map (c :: ·) else .bad 10 (c :: l)
/-- Letters and references up to a byte or the end; skip: so many bytes are a reference's. -/
def lettersGo (stop : UInt8) : Nat → Bs → Res Bs
 | _, [] => .ok [] []
 | k + 1, _ :: l => lettersGo stop k l
 | 0, c :: l =>
  if c = stop then .ok [] (c :: l)
  else if c = 38 then match refSpec (c :: l) with
   | .ok t n => (lettersGo stop (n - 1) l).map (t ++ ·)
   | .bad e => .bad e (c :: l)
  else if c = 60 ∨ cText c = false then .bad 10 (c :: l)
  else (lettersGo stop 0 l).map (c :: ·)
def letters (stop : UInt8) (l : Bs) : Res Bs := lettersGo stop 0 l
def valueR : Bs → Res Bs
 | [] => .bad 13 []
 | q :: l => if q = 34 ∨ q = 39 then (letters q l).bind fun s r => match r with
     | [] => .bad 13 []
     | _ :: r' => .ok s r'
  else .bad 10 (q :: l)
abbrev At2 := Bs × Bs
/-- One attribute, no blanks ahead of it. -/
def attrR (acc : List At2) (l : Bs) : Res At2 :=
 (nameR 10 l).bind fun nm r => if acc.any (fun a => a.1 == nm) then .bad 15 l else
  (wantC 61 (blanks r)).bind fun _ r' => (valueR (blanks r')).map fun v => (nm, v)
/-- Do a tag's attributes end here? -/
def tagEnds (l : Bs) : Bool := decide ((blanks l).length = l.length) || (blanks l).isEmpty || (blanks l).head? == some 47 || (blanks l).head? == some 62
def attrsGo : Nat → List At2 → Bs → Res (List At2)
 | 0, _, l => .bad 13 l
 | f + 1, acc, l => if tagEnds l then .ok acc (blanks l) else match attrR acc (blanks l) with
  | .ok a r => attrsGo f (acc ++ [a]) r
  | .bad e r => .bad e r
def attrsR (l : Bs) : Res (List At2) := attrsGo (l.length + 1) [] l
structure Tk where
 kind : Int
 name : Bs
 attrs : List At2
 text : Bs
 deriving DecidableEq
def sNote : Bs := [60, 33, 45, 45]
def eNote : Bs := [45, 45, 62]
def sData : Bs := [60, 33, 91, 67, 68, 65, 84, 65, 91]
def eData : Bs := [93, 93, 62]
def sHead : Bs := [60, 63, 120, 109, 108]
def eHead : Bs := [63, 62]
def isHead (l : Bs) : Bool := sHead.isPrefixOf l && match l[5]? with
 | none => false
 | some c => cBlank c || c == 63
def closeR (l : Bs) : Res Tk := (nameR 11 l).bind fun nm r => (wantC 62 (blanks r)).map fun _ => ⟨3, nm, [], []⟩
def openR (l : Bs) : Res Tk := (nameR 11 l).bind fun nm r => (attrsR r).bind fun ats r' => match r' with
 | 47 :: r'' => (wantC 62 r'').map fun _ => ⟨2, nm, ats, []⟩
 | _ => (wantC 62 r').map fun _ => ⟨1, nm, ats, []⟩
def tokenR (first : Bool) (l : Bs) : Res Tk :=
 if sNote.isPrefixOf l then (plain eNote (l.drop 4)).map fun t => ⟨5, [], [], t⟩
 else if sData.isPrefixOf l then (plain eData (l.drop 9)).map fun t => ⟨4, [], [], t⟩
 else if first && isHead l then (plain eHead (l.drop 5)).map fun t => ⟨6, [], [], t⟩
 else match l with
  | 60 :: 47 :: l' => closeR l'
  | 60 :: l' => openR l'
  | _ => (letters 60 l).map fun t => ⟨4, [], [], t⟩
/-- The tokens, each with what stands from its beginning on. -/
def allGo : Nat → Bool → List (Tk × Bs) → Bs → Res (List (Tk × Bs))
 | _, _, acc, [] => .ok acc []
 | 0, _, _, l => .bad 13 l
 | f + 1, first, acc, l => match tokenR first l with
  | .ok t r => allGo f false (acc ++ [(t, l)]) r
  | .bad e r => .bad e r
def allR (l : Bs) : Res (List (Tk × Bs)) := allGo l.length true [] l
/-- Line and column behind a text. -/
def lineCol (l : Bs) : Nat × Nat := l.foldl (fun p c => if c = 10 then (p.1 + 1, 1) else (p.1, p.2 + 1)) (1, 1)
/-- How many bytes are ahead of what is left. -/
def off (T : Bs) (r : Bs) : Nat := T.length - r.length

end Go.Proofs.YtphaeegbmfpcgaaGreatDoor

/- Trees, and how one is built of tokens, as plain functions; no program in sight. -/

namespace Go.Proofs.YtphaeegbmfpcgaaGreatDoor
open Go Go.RowKit

inductive Tr where
 | mk (name : Bs) (attrs : List At2) (kids : List Tr) (text : Bs)
namespace Tr
def name : Tr → Bs
 | .mk n _ _ _ => n
def attrs : Tr → List At2
 | .mk _ a _ _ => a
def kids : Tr → List Tr
 | .mk _ _ k _ => k
def text : Tr → Bs
 | .mk _ _ _ x => x
end Tr
/-- What stands between the blanks at both ends. -/
def trimB (l : Bs) : Bs := ((l.dropWhile cBlank).reverse.dropWhile cBlank).reverse
/-- An element that is open. -/
structure Fr where
 name : Bs
 attrs : List At2
 kids : List Tr
def Fr.tree (f : Fr) : Tr := .mk f.name f.attrs f.kids []
def Fr.add (f : Fr) (t : Tr) : Fr := ⟨f.name, f.attrs, f.kids ++ [t]⟩
/-- The last kid's text grows. -/
def addText (s : Bs) : List Tr → List Tr
 | [] => []
 | [.mk n a k x] => [.mk n a k (x ++ s)]
 | t :: u :: l => t :: addText s (u :: l)
def Fr.more (f : Fr) (s : Bs) : Fr := ⟨f.name, f.attrs, addText s f.kids⟩
/-- The builder: the open elements, the innermost first; the root when it has ended; how many elements and texts there are; whether the last thing was a text. -/
structure BSt where
 stack : List Fr
 root : Option Tr
 count : Nat
 text : Bool
def st0 : BSt := ⟨[], none, 0, false⟩
inductive StR where
 | ok (st : BSt)
 | bad (e : Int)
def closeB (f : Fr) (l : List Fr) (root : Option Tr) (count : Nat) : BSt :=
 match l with
 | [] => ⟨[], some f.tree, count, false⟩
 | g :: l => ⟨g.add f.tree :: l, root, count, false⟩
def lettersB (st : BSt) (s : Bs) : StR :=
 match st.stack with
 | [] => if (trimB s).isEmpty then .ok st else .bad 16
 | f :: l =>
  if s.isEmpty then .ok st
  else if st.text then .ok ⟨f.more s :: l, st.root, st.count, true⟩
  else if 4096 < st.count + 1 then .bad 2
  else .ok ⟨f.add (.mk [] [] [] s) :: l, st.root, st.count + 1, true⟩
def beginB (st : BSt) (t : Tk) : StR :=
 if st.root.isSome then .bad 16
 else if 64 ≤ st.stack.length then .bad 2
 else if 4096 < st.count + 1 then .bad 2
 else .ok ⟨⟨t.name, t.attrs, []⟩ :: st.stack, st.root, st.count + 1, false⟩
def StR.close : StR → StR
 | .ok ⟨f :: l, r, c, _⟩ => .ok (closeB f l r c)
 | x => x
def endB (st : BSt) (t : Tk) : StR :=
 match st.stack with
 | [] => .bad 16
 | f :: l => if f.name = t.name then .ok (closeB f l st.root st.count) else .bad 14
def stepB (st : BSt) (t : Tk) : StR :=
 if t.kind = 4 then lettersB st t.text
 else if t.kind = 1 then beginB st t
 else if t.kind = 2 then (beginB st t).close
 else if t.kind = 3 then endB st t
 else .ok st
def runB : BSt → List (Tk × Bs) → Res Tr
 | st, [] => match st.stack with
  | _ :: _ => .bad 13 []
  | [] => match st.root with
   | some t => .ok t []
   | none => .bad 16 []
 | st, (t, r) :: l => match stepB st t with
  | .ok st' => runB st' l
  | .bad e => .bad e r
/-- The tree of a text, or its first error and where it is. -/
def buildR (l : Bs) : Res Tr :=
 match allR l with
 | .ok acc _ => runB st0 acc
 | .bad e r => .bad e r

end Go.Proofs.YtphaeegbmfpcgaaGreatDoor

/- Plain laws on what a text is cut into: what is left is an end of the text; no program in sight. -/
namespace Go.Proofs.YtphaeegbmfpcgaaGreatDoor
open Go Go.RowKit

theorem span_le (p : UInt8 → Bool) (l : Bs) : span p l ≤ l.length := by
 induction l with
 | nil => simp [span]
 | cons c l ih => simp only [span, List.length_cons]; split <;> omega
theorem nameLen_le (l : Bs) : nameLen l ≤ l.length := by
 cases l with
 | nil => simp [nameLen]
 | cons c l => simp only [nameLen]; split; exact span_le _ _; omega
theorem span_lt {p : UInt8 → Bool} {l : Bs} {i : Nat} (h : i < span p l) : ∃ c, l[i]? = some c ∧ p c = true := by
 induction l generalizing i with
 | nil => simp [span] at h
 | cons c l ih =>
  simp only [span] at h
  split at h
  · rename_i hp
    cases i with
    | zero => exact ⟨c, rfl, hp⟩
    | succ i => simpa using ih (by omega)
  · omega
theorem span_end {p : UInt8 → Bool} {l : Bs} {c : UInt8} (h : l[span p l]? = some c) : p c = false := by
 induction l with
 | nil => simp [span] at h
 | cons x l ih =>
  simp only [span] at h
  split at h
  · exact ih (by simpa using h)
  · simp at h; subst h; simpa using ‹¬ p x = true›
theorem blanks_suf (l : Bs) : blanks l <:+ l := by
 induction l with
 | nil => exact List.suffix_refl _
 | cons c l ih => simp only [blanks]; split; exact ih.trans (List.suffix_cons c l); exact List.suffix_refl _
theorem blanks_le (l : Bs) : (blanks l).length ≤ l.length := (blanks_suf l).length_le
/-- What is left of a result is an end of what there was. -/
def Res.Suf {α : Type} (l : Bs) : Res α → Prop
 | .ok _ r => r <:+ l
 | .bad _ r => r <:+ l
theorem Res.Suf.map {α β : Type} {l : Bs} {x : Res α} (f : α → β) (h : x.Suf l) : (x.map f).Suf l := by cases x <;> exact h
theorem Res.Suf.trans {α : Type} {l l' : Bs} {x : Res α} (h : x.Suf l) (h' : l <:+ l') : x.Suf l' := by cases x <;> exact List.IsSuffix.trans h h'
theorem Res.Suf.bind {α β : Type} {l : Bs} {x : Res α} {f : α → Bs → Res β} (h : x.Suf l) (hf : ∀ a r, x = .ok a r → (f a r).Suf r) : (x.bind f).Suf l := by
 cases x with
 | ok a r => exact (hf a r rfl).trans h
 | bad e r => exact h
theorem wantC_suf (c : UInt8) (l : Bs) : (wantC c l).Suf l := by
 cases l with
 | nil => exact List.suffix_refl _
 | cons x l => simp only [wantC]; split; exact List.suffix_cons x l; exact List.suffix_refl _
theorem nameR_suf (e : Int) (l : Bs) : (nameR e l).Suf l := by
 cases l with
 | nil => exact List.suffix_refl _
 | cons x l => simp only [nameR]; split; exact List.suffix_refl _; exact List.drop_suffix _ _
theorem plain_suf (til l : Bs) : (plain til l).Suf l := by
 induction l with
 | nil => simp only [plain]; split; exact List.drop_suffix _ _; exact List.suffix_refl _
 | cons c l ih =>
  simp only [plain]
  split
  · exact List.drop_suffix _ _
  · split
    · exact (ih.trans (List.suffix_cons c l)).map _
    · exact List.suffix_refl _
theorem lettersGo_suf (stop : UInt8) (k : Nat) (l : Bs) : (lettersGo stop k l).Suf l := by
 induction l generalizing k with
 | nil => cases k <;> exact List.suffix_refl _
 | cons c l ih =>
  cases k with
  | succ k => exact (ih k).trans (List.suffix_cons c l)
  | zero =>
   simp only [lettersGo]
   split
   · exact List.suffix_refl _
   · split
     · cases refSpec (c :: l) with
       | ok t n => exact ((ih _).trans (List.suffix_cons c l)).map _
       | bad e => exact List.suffix_refl _
     · split
       · exact List.suffix_refl _
       · exact ((ih 0).trans (List.suffix_cons c l)).map _
theorem lettersGo_drop (stop : UInt8) (k : Nat) (l : Bs) : lettersGo stop k l = lettersGo stop 0 (l.drop k) := by
 induction l generalizing k with
 | nil => cases k <;> rfl
 | cons c l ih =>
  cases k with
  | zero => rfl
  | succ k => simp only [lettersGo, List.drop_succ_cons]; exact ih k
theorem letters_suf (stop : UInt8) (l : Bs) : (letters stop l).Suf l := lettersGo_suf stop 0 l
theorem valueR_suf (l : Bs) : (valueR l).Suf l := by
 cases l with
 | nil => exact List.suffix_refl _
 | cons q l =>
  simp only [valueR]
  split
  · refine Res.Suf.trans (Res.Suf.bind (letters_suf q l) fun s r _ => ?_) (List.suffix_cons q l)
    cases r with
    | nil => exact List.suffix_refl _
    | cons x r => exact List.suffix_cons x r
  · exact List.suffix_refl _
theorem attrR_suf (acc : List At2) (l : Bs) : (attrR acc l).Suf l := by
 unfold attrR
 cases h : nameR 10 l with
 | bad e r => have := nameR_suf 10 l; rw [h] at this; exact this
 | ok nm r =>
  have hs := nameR_suf 10 l
  rw [h] at hs
  simp only [Res.bind]
  split
  · exact List.suffix_refl _
  · refine Res.Suf.trans (l := r) (Res.Suf.trans (l := blanks r) (Res.Suf.bind (wantC_suf _ _) fun _ r' _ => ?_) (blanks_suf r)) hs
    exact ((valueR_suf _).map _).trans (blanks_suf r')
theorem attrsGo_suf (f : Nat) (acc : List At2) (l : Bs) : (attrsGo f acc l).Suf l := by
 induction f generalizing acc l with
 | zero => exact List.suffix_refl _
 | succ f ih =>
  simp only [attrsGo]
  split
  · exact blanks_suf l
  · cases h : attrR acc (blanks l) with
    | ok a r => have := attrR_suf acc (blanks l); rw [h] at this; exact (ih _ r).trans (List.IsSuffix.trans this (blanks_suf l))
    | bad e r => have := attrR_suf acc (blanks l); rw [h] at this; exact List.IsSuffix.trans this (blanks_suf l)
theorem attrsR_suf (l : Bs) : (attrsR l).Suf l := attrsGo_suf _ _ _
theorem closeR_suf (l : Bs) : (closeR l).Suf l := Res.Suf.bind (nameR_suf _ _) fun _ r _ => ((wantC_suf _ _).trans (blanks_suf r)).map _
theorem openR_suf (l : Bs) : (openR l).Suf l := Res.Suf.bind (nameR_suf _ _) fun nm r _ => Res.Suf.bind (attrsR_suf r) fun ats r' _ => by
 split
 · exact ((wantC_suf _ _).trans (List.suffix_cons _ _)).map _
 · exact (wantC_suf _ _).map _
theorem tokenR_suf (first : Bool) (l : Bs) : (tokenR first l).Suf l := by
 unfold tokenR
 split
 · exact ((plain_suf _ _).trans (List.drop_suffix _ _)).map _
 · split
   · exact ((plain_suf _ _).trans (List.drop_suffix _ _)).map _
   · split
     · exact ((plain_suf _ _).trans (List.drop_suffix _ _)).map _
     · split
       · exact (closeR_suf _).trans ((List.suffix_cons _ _).trans (List.suffix_cons _ _))
       · exact (openR_suf _).trans (List.suffix_cons _ _)
       · exact (letters_suf _ _).map _
theorem suf_tail {T r : Bs} {c : UInt8} (h : c :: r <:+ T) : r <:+ T := (List.suffix_cons c r).trans h
theorem bs_size (l : Bs) : (bs l).size = l.length := by simp [bs, ByteArray.size]
theorem bs_data (l : Bs) : (bs l).data.toList = l := by simp [bs]
theorem data_bs (s : S) : bs s.data.toList = s := Lib.mk_data s
theorem bs_extract (l : Bs) (a b : Nat) : (bs l).extract a b = bs ((l.drop a).take (b - a)) := by rw [Lib.extract_eq, bs_data]; rfl
theorem bs_append (l m : Bs) : bs l ++ bs m = bs (l ++ m) := by
 apply ByteArray.ext
 simp [bs, ByteArray.data_append]

end Go.Proofs.YtphaeegbmfpcgaaGreatDoor

/- Plain laws: the program's ways to look for an end, a line, a column come to the document's; no program in sight. -/
namespace Go.Proofs.YtphaeegbmfpcgaaGreatDoor
open Go Go.RowKit

/-- What stands up to an end, by the place of the end. -/
def untilP (til l : Bs) : Res Bs :=
 if 0 ≤ Lib.index l til then
  if span cText (l.take (Lib.index l til).toNat) < (Lib.index l til).toNat then .bad 10 (l.drop (span cText (l.take (Lib.index l til).toNat)))
  else .ok (l.take (Lib.index l til).toNat) (l.drop ((Lib.index l til).toNat + til.length))
 else if span cText l < l.length then .bad 10 (l.drop (span cText l)) else .bad 13 []
theorem plain_until {til : Bs} (ht : til ≠ []) (l : Bs) : plain til l = untilP til l := by
 have hp0 : til.isPrefixOf [] = false := by cases til with
  | nil => exact absurd rfl ht
  | cons a t => rfl
 induction l with
 | nil =>
  have hi : Lib.index [] til = -1 := by
   unfold Lib.index
   cases til with
   | nil => exact absurd rfl ht
   | cons a t => rfl
  unfold untilP plain
  rw [hi, hp0]; simp [span]
 | cons c l ih =>
  have hge := Lib.index_ge l til
  simp only [plain]
  by_cases hp : til.isPrefixOf (c :: l)
  · have hi : Lib.index (c :: l) til = 0 := by simp [Lib.index, hp]
    unfold untilP
    rw [if_pos hp, hi]; simp
  · rw [if_neg hp, ih]
    by_cases hl : Lib.index l til = -1
    · have hi : Lib.index (c :: l) til = -1 := by simp [Lib.index, hp, hl]
      unfold untilP
      rw [hi, hl]
      simp only [show ¬ (0 : Int) ≤ -1 by decide, if_false, span, List.length_cons]
      by_cases hc : cText c = true
      rotate_left
      · simp [hc]
      · simp only [hc, if_true]
        by_cases h2 : span cText l < l.length
        · rw [if_pos h2, if_pos (by omega)]; rfl
        · rw [if_neg h2, if_neg (by omega)]; rfl
    · have hi : Lib.index (c :: l) til = Lib.index l til + 1 := by simp [Lib.index, hp, hl]
      unfold untilP
      have hn0 : 0 ≤ Lib.index l til := by omega
      rw [hi, if_pos hn0, if_pos (show 0 ≤ Lib.index l til + 1 by omega)]
      have hn : (Lib.index l til + 1).toNat = (Lib.index l til).toNat + 1 := by omega
      rw [hn, List.take_succ_cons]
      simp only [span]
      by_cases hc : cText c = true
      rotate_left
      · simp [hc]
      · simp only [hc, if_true]
        by_cases h2 : span cText (l.take (Lib.index l til).toNat) < (Lib.index l til).toNat
        · rw [if_pos h2, if_pos (by omega)]; rfl
        · rw [if_neg h2, if_neg (by omega)]
          show Res.ok _ _ = _
          rw [show (Lib.index l til).toNat + 1 + til.length = (Lib.index l til).toNat + til.length + 1 by omega]; rfl
theorem lineCol_snoc (l : Bs) (c : UInt8) : lineCol (l ++ [c]) = if c = 10 then ((lineCol l).1 + 1, 1) else ((lineCol l).1, (lineCol l).2 + 1) := by
 unfold lineCol; rw [List.foldl_append]; rfl
theorem snoc_ind {P : Bs → Prop} (h0 : P []) (h1 : ∀ l c, P l → P (l ++ [c])) (l : Bs) : P l := by
 have h : ∀ m : Bs, P m.reverse := fun m => by
  induction m with
  | nil => exact h0
  | cons c m ih => rw [List.reverse_cons]; exact h1 _ _ ih
 have := h l.reverse
 rwa [List.reverse_reverse] at this
theorem lineCol_pos (l : Bs) : 1 ≤ (lineCol l).1 ∧ 1 ≤ (lineCol l).2 ∧ (lineCol l).1 ≤ l.length + 1 ∧ (lineCol l).2 ≤ l.length + 1 := by
 induction l using snoc_ind with
 | h0 => decide
 | h1 l c ih =>
 rw [lineCol_snoc]
 simp only [List.length_append, List.length_singleton]
 split <;> simp <;> omega
theorem lineCol_line (l : Bs) : (lineCol l).1 = 1 + l.count 10 := by
 induction l using snoc_ind with
 | h0 => rfl
 | h1 l c ih =>
 rw [lineCol_snoc, List.count_append]
 split
 · rename_i h; subst h; simp [ih]; omega
 · rename_i h; simp [ih, h]
theorem lastIdx_congr {s t : ByteArray} {c : Int} (k : Nat) (h : ∀ j, j < k → s.data[j]! = t.data[j]!) : Lib.lastIdx s c k = Lib.lastIdx t c k := by
 induction k with
 | zero => rfl
 | succ k ih => simp only [Lib.lastIdx]; rw [h k (by omega), ih fun j hj => h j (by omega)]
theorem bs_bang (l : Bs) (j : Nat) (h : j < l.length) : (bs l).data[j]! = l[j] := by
 rw [getElem!_pos (bs l).data j (by simpa [bs] using h)]; simp [bs]
theorem lineCol_col (l : Bs) : Lib.lastIndexByte (bs l) 10 = (l.length : Int) - (lineCol l).2 := by
 induction l using snoc_ind with
 | h0 => rfl
 | h1 l c ih =>
 unfold Lib.lastIndexByte at ih ⊢
 rw [bs_size] at ih ⊢
 rw [lineCol_snoc, List.length_append, List.length_singleton]
 simp only [Lib.lastIdx]
 rw [bs_bang _ _ (by simp)]
 have e : (l ++ [c])[l.length]'(by simp) = c := by simp
 rw [e]
 by_cases h : c = 10
 · subst h; simp
 · have h' : ¬ ((c.toNat : Nat) : Int) = 10 := fun e => h (UInt8.toNat_inj.1 (by simpa using (by omega : c.toNat = 10)))
   rw [if_neg h', if_neg h, lastIdx_congr (t := bs l) l.length (fun j hj => by rw [bs_bang _ _ (by simp; omega), bs_bang _ _ hj]; simp [hj]), ih]
   simp; omega
theorem lastOcc_one (l : Bs) (c : UInt8) (k : Nat) (hk : k ≤ l.length) : Lib.lastOcc l [c] k = Lib.lastIdx (bs l) c.toNat k := by
 induction k with
 | zero => rfl
 | succ k ih =>
  have hl : k < l.length := by omega
  have ho : Lib.occAt l [c] k = decide (l[k] = c) := by
   unfold Lib.occAt
   rw [List.drop_eq_getElem_cons hl]
   simp only [List.isPrefixOf, Bool.and_true]
   by_cases e : c = l[k]
   · simp [← e]
   · simp [e, Ne.symm e]
  simp only [Lib.lastIdx]
  rw [bs_bang _ _ hl]
  by_cases h : l[k] = c
  · rw [Lib.lastOcc_hit _ _ _ (by rw [ho]; simpa using h), if_pos (by rw [h])]
  · rw [Lib.lastOcc_miss _ _ _ (by rw [ho]; simpa using h), ih (by omega), if_neg]
    intro e; exact h (UInt8.toNat_inj.1 (by omega))
theorem lastIndex_one (l : Bs) : Lib.lastIndex l [10] = (l.length : Int) - (lineCol l).2 := by
 rw [← lineCol_col]
 unfold Lib.lastIndex Lib.lastIndexByte
 rw [bs_size]
 cases l with
 | nil => rfl
 | cons c l =>
  rw [if_pos (by simp), show (c :: l).length - ([10] : Bs).length + 1 = (c :: l).length by simp, lastOcc_one _ _ _ (Nat.le_refl _)]; rfl

end Go.Proofs.YtphaeegbmfpcgaaGreatDoor
