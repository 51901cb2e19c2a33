/- The base: what slices of structs are in memory; the data of the layers; no program in sight. -/
import Derived.WalkKit
import Derived.Lib.Hide
import Derived.Deep.QuietTactic
import Derived.BigQuiet
namespace Go.Proofs.YtecffghcpknmjaaGreatDoor
open Go Go.RowKit

/-- A slice value that reads as the list l, each element taking n cells, these being C x. -/
def SliceOf {α : Type} (n : Nat) (C : α → List Value) (w : World) (v : Value) (l : List α) : Prop :=
  ∃ ao cap, v = .slice ao l.length cap ∧ l.length ≤ cap ∧ cap ≤ maxLen ∧ (ao = none → cap = 0) ∧
    ∀ i x, l[i]? = some x → ∃ b o, ao = some ⟨b, o, none⟩ ∧ b < w.heap.size ∧ ∀ j u, (C x)[j]? = some u → w.cell? ⟨b, o + i * n + j, none⟩ = some u
theorem SliceOf.below {α : Type} {n : Nat} {C : α → List Value} {w w' : World} {v : Value} {l : List α} (h : SliceOf n C w v l) (hb : Below w.heap.size w w') : SliceOf n C w' v l := by
  obtain ⟨ao, cap, h1, h2, hm, h3, h4⟩ := h
  refine ⟨ao, cap, h1, h2, hm, h3, fun i x hx => ?_⟩
  obtain ⟨b, o, ha, hlt, hc⟩ := h4 i x hx
  exact ⟨b, o, ha, Nat.lt_of_lt_of_le hlt hb.size, fun j u hu => (hb.cell (by exact hlt)).trans (hc j u hu)⟩
theorem SliceOf.nil {α : Type} {n : Nat} {C : α → List Value} {w : World} : SliceOf n C w (.slice none 0 0) ([] : List α) :=
  ⟨none, 0, rfl, Nat.le_refl _, Nat.zero_le _, fun _ => rfl, fun i x h => by simp at h⟩
theorem SliceOf.shape {α : Type} {n : Nat} {C : α → List Value} {w : World} {v : Value} {l : List α} (h : SliceOf n C w v l) : ∃ ao cap, v = .slice ao l.length cap := by
  obtain ⟨ao, cap, h1, _⟩ := h; exact ⟨ao, cap, h1⟩
theorem SliceOf.at {α : Type} {n : Nat} {C : α → List Value} {w : World} {ao : Option Addr} {len cap : Nat} {l : List α} (h : SliceOf n C w (.slice ao len cap) l) {k : Nat} (hk : k < l.length) :
    ∃ b o, ao = some ⟨b, o, none⟩ ∧ b < w.heap.size ∧ ∀ j u, (C l[k])[j]? = some u → w.cell? ⟨b, o + k * n + j, none⟩ = some u := by
  obtain ⟨ao', cap', h1, h2, hm, h3, h4⟩ := h
  cases h1
  exact h4 k l[k] (by simp [hk])
/-- A block of the call's own (a variable): it holds cs and may be written. -/
structure Box (w : World) (b : Nat) (cs : List Value) : Prop where
  lt : b < w.heap.size
  cell : ∀ j u, cs[j]? = some u → w.cell? ⟨b, j, none⟩ = some u
  free : ∀ j, w.frozen? ⟨b, j, none⟩ = false
theorem Box.new (w : World) (cs : List Value) (T : TypeId) (H : Nat) (hH : w.heap.size = H) : Box (w.alloc (.cells cs.toArray T)) H cs := by
  subst hH
  refine ⟨by simp, fun j u h => ?_, fun j => ?_⟩
  · rw [cell_of_row _ w.heap.size j _ T (0, 0) (heap_alloc_new w _)]; simpa using h
  · have h := heap_alloc_new w (.cells cs.toArray T)
    simp only [World.frozen?, h]; simp
theorem Box.below {w w' : World} {b B : Nat} {cs : List Value} (h : Box w b cs) (hb : Below B w w') (hlt : b < B) : Box w' b cs :=
  ⟨Nat.lt_of_lt_of_le h.lt hb.size, fun j u hu => (hb.cell (by exact hlt)).trans (h.cell j u hu), fun j => (hb.frozen (by exact hlt)).trans (h.free j)⟩
theorem Box.alloc {w : World} {b : Nat} {cs : List Value} (h : Box w b cs) (o : Obj) : Box (w.alloc o) b cs :=
  h.below ((Below.refl w.heap.size w).alloc (Nat.le_refl _) o) h.lt
theorem Box.drewN {w : World} {b : Nat} {cs : List Value} (h : Box w b cs) (n : Nat) : Box (w.drewN n) b cs := ⟨h.lt, h.cell, h.free⟩
theorem Box.grown {w w' : World} {b : Nat} {cs : List Value} {row : Option Nat} (h : Box w b cs) (hg : w.grownBy w' row) (hne : some b ≠ row) : Box w' b cs :=
  ⟨Nat.lt_of_lt_of_le h.lt hg.size, fun j u hu => (World.cell?_of_block (by exact hg.block b h.lt hne)).trans (h.cell j u hu), fun j => (World.frozen?_of_block (by exact hg.block b h.lt hne)).trans (h.free j)⟩
/-- A world behind w: nothing that was there has turned. The class of worlds in which a region that only reads, and calls what only makes memory, is walked once. -/
structure Later (w : World) where
  at_ : World
  below : Below w.heap.size w at_
instance laterInhabited (w : World) : Inhabited (Later w) := ⟨⟨w, Below.refl _ _⟩⟩
theorem region_later {P : Program} {id : Nat} {Q : Exit → Act → World → Prop} {a : Act} {w : World} {l : List Oper} (hm : P.follows .mixedOrders = true) (hB : Region.lexB .any l.toArray = true)
    (h : wpQuiet P l.toArray (fun w' => ∃ x : Later w, w' = x.at_) (fun a' => ∀ w', (∃ x : Later w, w' = x.at_) → Q .normal a' w') l a) : (Code.region id l.toArray true).wp P Q a w :=
  wp_region_quiet (C := fun w' => ∃ x : Later w, w' = x.at_) hm hB ⟨⟨{ w with drawn := w.drawn + 1 }, ⟨rfl, rfl, rfl, Nat.le_refl _, fun _ _ => rfl⟩⟩, rfl⟩ (by simpa using h)
theorem Later.call {P : Program} {f : FuncId} {args : Array Value} {w : World} {x : Later w} {v : Value}
    (h : Calls P f args x.at_ fun e w' => e = .returned v ∧ Below x.at_.heap.size x.at_ w') : Calls P f args x.at_ fun e w'' => e = .returned v ∧ ∃ y : Later w, w'' = y.at_ :=
  h.mono fun _ w' ⟨he, hb⟩ => ⟨he, ⟨w', x.below.trans (hb.mono x.below.size)⟩, rfl⟩
theorem Later.cells {w : World} (x : Later w) (b o : Nat) (h : b < w.heap.size) : x.at_.cell? ⟨b, o, none⟩ = w.cell? ⟨b, o, none⟩ := x.below.cell h
theorem ret_bool {a b : Bool} (h : a = b) : Ending.returned (.bool a) = .returned (.bool b) := by rw [h]
theorem drop_cons' {α : Type} {l : List α} {k : Nat} (h : k < l.length) : l.drop k = l[k] :: l.drop (k + 1) := List.drop_eq_getElem_cons h
abbrev S := ByteArray
/-- Whether a text is empty: the walk's form. -/
def isE (s : S) : Bool := s.toList.isEmpty
structure Id where
  group : S
  artifact : S
  deriving DecidableEq
structure Gav where
  group : S
  artifact : S
  version : S
  deriving DecidableEq
structure Key where
  group : S
  artifact : S
  type : S
  classifier : S
  deriving DecidableEq
structure Prp where
  name : S
  value : S
  deriving DecidableEq
structure Dep where
  group : S
  artifact : S
  version : S
  type : S
  classifier : S
  scope : Int
  opt : Int
  excl : List Id
  deriving DecidableEq
structure Pom where
  hasParent : Bool
  parent : Gav
  group : S
  artifact : S
  version : S
  packaging : S
  props : List Prp
  managed : List Dep
  deps : List Dep
  deriving DecidableEq
def strC (s : S) : List Value := [.string s]
def idC (x : Id) : List Value := [.string x.group, .string x.artifact]
def gavC (x : Gav) : List Value := [.string x.group, .string x.artifact, .string x.version]
def prpC (x : Prp) : List Value := [.string x.name, .string x.value]
def depC (p : Dep × Value) : List Value := [.string p.1.group, .string p.1.artifact, .string p.1.version, .string p.1.type, .string p.1.classifier, .int .i64 p.1.scope, .int .i64 p.1.opt, p.2]
/-- The slices in a list of dependencies read as they should. -/
def DepOk (w : World) (p : Dep × Value) : Prop := SliceOf 2 idC w p.2 p.1.excl
def DepsOf (w : World) (v : Value) (ds : List Dep) : Prop := ∃ l : List (Dep × Value), l.map (·.1) = ds ∧ SliceOf 8 depC w v l ∧ ∀ p ∈ l, DepOk w p
theorem DepOk.below {w w' : World} {p : Dep × Value} (h : DepOk w p) (hb : Below w.heap.size w w') : DepOk w' p := SliceOf.below h hb
theorem DepOk.shape {w : World} {d : Dep} {x : Value} (h : DepOk w (d, x)) : ∃ ao cap, x = .slice ao d.excl.length cap := SliceOf.shape h
theorem DepsOf.shape {w : World} {v : Value} {ds : List Dep} (h : DepsOf w v ds) : ∃ ao cap, v = .slice ao ds.length cap := by
  obtain ⟨l, rfl, h2, h3⟩ := h
  obtain ⟨ao, cap, h⟩ := h2.shape
  exact ⟨ao, cap, by simpa using h⟩
theorem DepsOf.below {w w' : World} {v : Value} {ds : List Dep} (h : DepsOf w v ds) (hb : Below w.heap.size w w') : DepsOf w' v ds := by
  obtain ⟨l, h1, h2, h3⟩ := h
  exact ⟨l, h1, h2.below hb, fun p hp => (h3 p hp).below hb⟩
/-- A project's cells: its three slices' values besides. -/
def pomC (p : Pom) (pv mv dv : Value) : List Value :=
  [.bool p.hasParent, .string p.parent.group, .string p.parent.artifact, .string p.parent.version, .string p.group, .string p.artifact, .string p.version, .string p.packaging, pv, mv, dv]
structure PomOf (w : World) (v : Value) (p : Pom) (pv mv dv : Value) : Prop where
  val : v = .agg (pomC p pv mv dv).toArray
  props : SliceOf 2 prpC w pv p.props
  managed : DepsOf w mv p.managed
  deps : DepsOf w dv p.deps
theorem PomOf.below {w w' : World} {v : Value} {p : Pom} {pv mv dv : Value} (h : PomOf w v p pv mv dv) (hb : Below w.heap.size w w') : PomOf w' v p pv mv dv :=
  ⟨h.val, h.props.below hb, h.managed.below hb, h.deps.below hb⟩
theorem SliceOf.at1 {w : World} {ao : Option Addr} {len cap : Nat} {l : List S} (h : SliceOf 1 strC w (.slice ao len cap) l) {k : Nat} (hk : k < l.length) :
    ∃ b o, ao = some ⟨b, o, none⟩ ∧ b < w.heap.size ∧ w.cell? ⟨b, o + k, none⟩ = some (.string l[k]) := by
  obtain ⟨b, o, h1, h2, h3⟩ := h.at hk
  exact ⟨b, o, h1, h2, by simpa using h3 0 _ rfl⟩
def jar : S := ⟨#[106, 97, 114]⟩
def keyOf (d : Dep) : Key := ⟨d.group, d.artifact, if isE d.type then jar else d.type, d.classifier⟩
def has : List Dep → Key → Bool
  | [], _ => false
  | d :: l, k => decide (keyOf d = k) || has l k
def at_ : Nat → List Prp → S → Int
  | _, [], _ => -1
  | i, p :: l, n => if p.name = n then i else at_ (i + 1) l n

end Go.Proofs.YtecffghcpknmjaaGreatDoor
