/- The base: what slices of structs are in memory; the data of the layers; no program in sight. -/
import Derived.WalkKit
import Derived.Lib.Hide
import Derived.Deep.QuietTactic
import Derived.BigQuiet
import Derived.Lib.Strings
import Derived.Lib.Index
import Derived.Lib.LastIndexByte
import Derived.Lib.LastIndexLaws
import Derived.Test.YtbbbfjcikhpmbaaGreatProg
import Derived.WalkSpells
import Derived.WalkLawsBesides
import Derived.LoopTactic
import Derived.Laws.Cover4
import Derived.IntWalk
import Derived.Test.YtbbbfjcikhpmbaaGreatShelf
namespace Go.Proofs.YtbbbfjcikhpmbaaGreat
open Go Go.RowKit

/-- A slice value that reads as the list l, each element taking n cells, these being C x. -/
def SliceOf {α : Type} (n : Nat) (C : α → List Value) (w : World) (v : Value) (l : List α) : Prop :=
 ∃ ao cap, v = .slice ao l.length cap ∧ l.length ≤ cap ∧ cap ≤ maxLen ∧ (ao = none → cap = 0) ∧
  ∀ i x, l[i]? = some x → ∃ b o, ao = some ⟨b, o, none⟩ ∧ b < w.heap.size ∧ ∀ j u, (C x)[j]? = some u → w.cell? ⟨b, o + i * n + j, none⟩ = some u
theorem SliceOf.below {α : Type} {n : Nat} {C : α → List Value} {w w' : World} {v : Value} {l : List α} (h : SliceOf n C w v l) (hb : Below w.heap.size w w') : SliceOf n C w' v l := by
 obtain ⟨ao, cap, h1, h2, hm, h3, h4⟩ := h
 refine ⟨ao, cap, h1, h2, hm, h3, fun i x hx => ?_⟩
 obtain ⟨b, o, ha, hlt, hc⟩ := h4 i x hx
 exact ⟨b, o, ha, Nat.lt_of_lt_of_le hlt hb.size, fun j u hu => (hb.cell (by exact hlt)).trans (hc j u hu)⟩
theorem SliceOf.nil {α : Type} {n : Nat} {C : α → List Value} {w : World} : SliceOf n C w (.slice none 0 0) ([] : List α) :=
 ⟨none, 0, rfl, Nat.le_refl _, Nat.zero_le _, fun _ => rfl, fun i x h => by simp at h⟩
theorem SliceOf.shape {α : Type} {n : Nat} {C : α → List Value} {w : World} {v : Value} {l : List α} (h : SliceOf n C w v l) : ∃ ao cap, v = .slice ao l.length cap := by
 obtain ⟨ao, cap, h1, _⟩ := h; exact ⟨ao, cap, h1⟩
theorem SliceOf.at {α : Type} {n : Nat} {C : α → List Value} {w : World} {ao : Option Addr} {len cap : Nat} {l : List α} (h : SliceOf n C w (.slice ao len cap) l) {k : Nat} (hk : k < l.length) :
    ∃ b o, ao = some ⟨b, o, none⟩ ∧ b < w.heap.size ∧ ∀ j u, (C l[k])[j]? = some u → w.cell? ⟨b, o + k * n + j, none⟩ = some u := by
 obtain ⟨ao', cap', h1, h2, hm, h3, h4⟩ := h
 cases h1
 exact h4 k l[k] (by simp [hk])
/-- A block of the call's own (a variable): it holds cs and may be written. -/
structure Box (w : World) (b : Nat) (cs : List Value) : Prop where
 lt : b < w.heap.size
 cell : ∀ j u, cs[j]? = some u → w.cell? ⟨b, j, none⟩ = some u
 free : ∀ j, w.frozen? ⟨b, j, none⟩ = false
theorem Box.new (w : World) (cs : List Value) (T : TypeId) (H : Nat) (hH : w.heap.size = H) : Box (w.alloc (.cells cs.toArray T)) H cs := by
 subst hH
 refine ⟨by simp, fun j u h => ?_, fun j => ?_⟩
 · rw [cell_of_row _ w.heap.size j _ T (0, 0) (heap_alloc_new w _)]; simpa using h
 · have h := heap_alloc_new w (.cells cs.toArray T)
   simp only [World.frozen?, h]; simp
theorem Box.below {w w' : World} {b B : Nat} {cs : List Value} (h : Box w b cs) (hb : Below B w w') (hlt : b < B) : Box w' b cs :=
 ⟨Nat.lt_of_lt_of_le h.lt hb.size, fun j u hu => (hb.cell (by exact hlt)).trans (h.cell j u hu), fun j => (hb.frozen (by exact hlt)).trans (h.free j)⟩
theorem Box.alloc {w : World} {b : Nat} {cs : List Value} (h : Box w b cs) (o : Obj) : Box (w.alloc o) b cs :=
 h.below ((Below.refl w.heap.size w).alloc (Nat.le_refl _) o) h.lt
theorem Box.drewN {w : World} {b : Nat} {cs : List Value} (h : Box w b cs) (n : Nat) : Box (w.drewN n) b cs := ⟨h.lt, h.cell, h.free⟩
theorem Box.grown {w w' : World} {b : Nat} {cs : List Value} {row : Option Nat} (h : Box w b cs) (hg : w.grownBy w' row) (hne : some b ≠ row) : Box w' b cs :=
 ⟨Nat.lt_of_lt_of_le h.lt hg.size, fun j u hu => (World.cell?_of_block (by exact hg.block b h.lt hne)).trans (h.cell j u hu), fun j => (World.frozen?_of_block (by exact hg.block b h.lt hne)).trans (h.free j)⟩
theorem ret_bool {a b : Bool} (h : a = b) : Ending.returned (.bool a) = .returned (.bool b) := by rw [h]
theorem ret_int {k : IntKind} {a b : Int} (h : a = b) : Ending.returned (.int k a) = .returned (.int k b) := by rw [h]
theorem drop_cons' {α : Type} {l : List α} {k : Nat} (h : k < l.length) : l.drop k = l[k] :: l.drop (k + 1) := List.drop_eq_getElem_cons h
abbrev S := ByteArray
/-- Whether a text is empty: the walk's form. -/
def isE (s : S) : Bool := s.toList.isEmpty
structure Id where
 group : S
 artifact : S
 deriving DecidableEq
structure Gav where
 group : S
 artifact : S
 version : S
 deriving DecidableEq
structure Key where
 group : S
 artifact : S
 type : S
 classifier : S
 deriving DecidableEq
structure Prp where
 name : S
 value : S
 deriving DecidableEq
structure Dep where
 group : S
 artifact : S
 version : S
 type : S
 classifier : S
 scope : Int
 opt : Int
 excl : List Id
 deriving DecidableEq
structure Pom where
 hasParent : Bool
 parent : Gav
 group : S
 artifact : S
 version : S
 packaging : S
 props : List Prp
 managed : List Dep
 deps : List Dep
 deriving DecidableEq
def strC (s : S) : List Value := [.string s]
def idC (x : Id) : List Value := [.string x.group, .string x.artifact]
def prpC (x : Prp) : List Value := [.string x.name, .string x.value]
def depC (p : Dep × Value) : List Value := [.string p.1.group, .string p.1.artifact, .string p.1.version, .string p.1.type, .string p.1.classifier, .int .i64 p.1.scope, .int .i64 p.1.opt, p.2]
/-- The slices in a list of dependencies read as they should. -/
def DepOk (w : World) (p : Dep × Value) : Prop := SliceOf 2 idC w p.2 p.1.excl
def DepsOf (w : World) (v : Value) (ds : List Dep) : Prop := ∃ l : List (Dep × Value), l.map (·.1) = ds ∧ SliceOf 8 depC w v l ∧ ∀ p ∈ l, DepOk w p
theorem DepOk.below {w w' : World} {p : Dep × Value} (h : DepOk w p) (hb : Below w.heap.size w w') : DepOk w' p := SliceOf.below h hb
theorem DepOk.shape {w : World} {d : Dep} {x : Value} (h : DepOk w (d, x)) : ∃ ao cap, x = .slice ao d.excl.length cap := SliceOf.shape h
theorem DepsOf.shape {w : World} {v : Value} {ds : List Dep} (h : DepsOf w v ds) : ∃ ao cap, v = .slice ao ds.length cap := by
 obtain ⟨l, rfl, h2, h3⟩ := h
 obtain ⟨ao, cap, h⟩ := h2.shape
 exact ⟨ao, cap, by simpa using h⟩
theorem DepsOf.below {w w' : World} {v : Value} {ds : List Dep} (h : DepsOf w v ds) (hb : Below w.heap.size w w') : DepsOf w' v ds := by
 obtain ⟨l, h1, h2, h3⟩ := h
 exact ⟨l, h1, h2.below hb, fun p hp => (h3 p hp).below hb⟩
/-- A project's cells: its three slices' values besides. -/
def pomC (p : Pom) (pv mv dv : Value) : List Value :=
 [.bool p.hasParent, .string p.parent.group, .string p.parent.artifact, .string p.parent.version, .string p.group, .string p.artifact, .string p.version, .string p.packaging, pv, mv, dv]
structure PomOf (w : World) (v : Value) (p : Pom) (pv mv dv : Value) : Prop where
 val : v = .agg (pomC p pv mv dv).toArray
 props : SliceOf 2 prpC w pv p.props
 managed : DepsOf w mv p.managed
 deps : DepsOf w dv p.deps
theorem SliceOf.atId {w : World} {ao : Option Addr} {len cap : Nat} {l : List Id} (h : SliceOf 2 idC w (.slice ao len cap) l) {k : Nat} (hk : k < l.length) :
    ∃ b o, ao = some ⟨b, o, none⟩ ∧ b < w.heap.size ∧ w.cell? ⟨b, o + k * 2, none⟩ = some (.string l[k].group) ∧ w.cell? ⟨b, o + k * 2 + 1, none⟩ = some (.string l[k].artifact) := by
 obtain ⟨b, o, h1, h2, h3⟩ := h.at hk
 exact ⟨b, o, h1, h2, by simpa using h3 0 _ rfl, h3 1 _ rfl⟩
theorem SliceOf.atPrp {w : World} {ao : Option Addr} {len cap : Nat} {l : List Prp} (h : SliceOf 2 prpC w (.slice ao len cap) l) {k : Nat} (hk : k < l.length) :
    ∃ b o, ao = some ⟨b, o, none⟩ ∧ b < w.heap.size ∧ w.cell? ⟨b, o + k * 2, none⟩ = some (.string l[k].name) ∧ w.cell? ⟨b, o + k * 2 + 1, none⟩ = some (.string l[k].value) := by
 obtain ⟨b, o, h1, h2, h3⟩ := h.at hk
 exact ⟨b, o, h1, h2, by simpa using h3 0 _ rfl, h3 1 _ rfl⟩
theorem SliceOf.atDep {w : World} {ao : Option Addr} {len cap : Nat} {l : List (Dep × Value)} (h : SliceOf 8 depC w (.slice ao len cap) l) {k : Nat} (hk : k < l.length) :
    ∃ b o, ao = some ⟨b, o, none⟩ ∧ b < w.heap.size ∧ w.cell? ⟨b, o + k * 8, none⟩ = some (.string l[k].1.group) ∧ w.cell? ⟨b, o + k * 8 + 1, none⟩ = some (.string l[k].1.artifact) ∧
     w.cell? ⟨b, o + k * 8 + 2, none⟩ = some (.string l[k].1.version) ∧ w.cell? ⟨b, o + k * 8 + 3, none⟩ = some (.string l[k].1.type) ∧ w.cell? ⟨b, o + k * 8 + 4, none⟩ = some (.string l[k].1.classifier) ∧
     w.cell? ⟨b, o + k * 8 + 5, none⟩ = some (.int .i64 l[k].1.scope) ∧ w.cell? ⟨b, o + k * 8 + 6, none⟩ = some (.int .i64 l[k].1.opt) ∧ w.cell? ⟨b, o + k * 8 + 7, none⟩ = some l[k].2 := by
 obtain ⟨b, o, h1, h2, h3⟩ := h.at hk
 exact ⟨b, o, h1, h2, by simpa using h3 0 _ rfl, h3 1 _ rfl, h3 2 _ rfl, h3 3 _ rfl, h3 4 _ rfl, h3 5 _ rfl, h3 6 _ rfl, h3 7 _ rfl⟩
structure LightDep (d : Dep) : Prop where
 excl : d.excl.length ≤ 10
structure Light (p : Pom) : Prop where
 props : p.props.length ≤ 30
 managed : p.managed.length ≤ 30
 deps : p.deps.length ≤ 30
 managedL : ∀ d ∈ p.managed, LightDep d
 depsL : ∀ d ∈ p.deps, LightDep d
def jar : S := ⟨#[106, 97, 114]⟩
def keyOf (d : Dep) : Key := ⟨d.group, d.artifact, if isE d.type then jar else d.type, d.classifier⟩
def has : List Dep → Key → Bool
 | [], _ => false
 | d :: l, k => decide (keyOf d = k) || has l k

theorem bxc3 {w : World} {b : Nat} {v0 v1 v2 : Value} {r : List Value} (h : Box w b (v0 :: v1 :: v2 :: r)) : w.cell? ⟨b, 0, none⟩ = some v0 ∧ w.cell? ⟨b, 1, none⟩ = some v1 ∧ w.cell? ⟨b, 2, none⟩ = some v2 :=
 ⟨h.cell 0 _ rfl, h.cell 1 _ rfl, h.cell 2 _ rfl⟩
theorem bxc4 {w : World} {b : Nat} {v0 v1 v2 v3 : Value} {r : List Value} (h : Box w b (v0 :: v1 :: v2 :: v3 :: r)) : w.cell? ⟨b, 0, none⟩ = some v0 ∧ w.cell? ⟨b, 1, none⟩ = some v1 ∧ w.cell? ⟨b, 2, none⟩ = some v2 ∧ w.cell? ⟨b, 3, none⟩ = some v3 :=
 ⟨h.cell 0 _ rfl, h.cell 1 _ rfl, h.cell 2 _ rfl, h.cell 3 _ rfl⟩
theorem bxc5 {w : World} {b : Nat} {v0 v1 v2 v3 v4 : Value} {r : List Value} (h : Box w b (v0 :: v1 :: v2 :: v3 :: v4 :: r)) : w.cell? ⟨b, 0, none⟩ = some v0 ∧ w.cell? ⟨b, 1, none⟩ = some v1 ∧ w.cell? ⟨b, 2, none⟩ = some v2 ∧ w.cell? ⟨b, 3, none⟩ = some v3 ∧ w.cell? ⟨b, 4, none⟩ = some v4 :=
 ⟨h.cell 0 _ rfl, h.cell 1 _ rfl, h.cell 2 _ rfl, h.cell 3 _ rfl, h.cell 4 _ rfl⟩
theorem bxc7 {w : World} {b : Nat} {v0 v1 v2 v3 v4 v5 v6 : Value} {r : List Value} (h : Box w b (v0 :: v1 :: v2 :: v3 :: v4 :: v5 :: v6 :: r)) : w.cell? ⟨b, 0, none⟩ = some v0 ∧ w.cell? ⟨b, 1, none⟩ = some v1 ∧ w.cell? ⟨b, 2, none⟩ = some v2 ∧ w.cell? ⟨b, 3, none⟩ = some v3 ∧ w.cell? ⟨b, 4, none⟩ = some v4 ∧ w.cell? ⟨b, 5, none⟩ = some v5 ∧ w.cell? ⟨b, 6, none⟩ = some v6 :=
 ⟨h.cell 0 _ rfl, h.cell 1 _ rfl, h.cell 2 _ rfl, h.cell 3 _ rfl, h.cell 4 _ rfl, h.cell 5 _ rfl, h.cell 6 _ rfl⟩
theorem bxc8 {w : World} {b : Nat} {v0 v1 v2 v3 v4 v5 v6 v7 : Value} {r : List Value} (h : Box w b (v0 :: v1 :: v2 :: v3 :: v4 :: v5 :: v6 :: v7 :: r)) : w.cell? ⟨b, 0, none⟩ = some v0 ∧ w.cell? ⟨b, 1, none⟩ = some v1 ∧ w.cell? ⟨b, 2, none⟩ = some v2 ∧ w.cell? ⟨b, 3, none⟩ = some v3 ∧ w.cell? ⟨b, 4, none⟩ = some v4 ∧ w.cell? ⟨b, 5, none⟩ = some v5 ∧ w.cell? ⟨b, 6, none⟩ = some v6 ∧ w.cell? ⟨b, 7, none⟩ = some v7 :=
 ⟨h.cell 0 _ rfl, h.cell 1 _ rfl, h.cell 2 _ rfl, h.cell 3 _ rfl, h.cell 4 _ rfl, h.cell 5 _ rfl, h.cell 6 _ rfl, h.cell 7 _ rfl⟩
theorem bxc11 {w : World} {b : Nat} {v0 v1 v2 v3 v4 v5 v6 v7 v8 v9 v10 : Value} {r : List Value} (h : Box w b (v0 :: v1 :: v2 :: v3 :: v4 :: v5 :: v6 :: v7 :: v8 :: v9 :: v10 :: r)) : w.cell? ⟨b, 0, none⟩ = some v0 ∧ w.cell? ⟨b, 1, none⟩ = some v1 ∧ w.cell? ⟨b, 2, none⟩ = some v2 ∧ w.cell? ⟨b, 3, none⟩ = some v3 ∧ w.cell? ⟨b, 4, none⟩ = some v4 ∧ w.cell? ⟨b, 5, none⟩ = some v5 ∧ w.cell? ⟨b, 6, none⟩ = some v6 ∧ w.cell? ⟨b, 7, none⟩ = some v7 ∧ w.cell? ⟨b, 8, none⟩ = some v8 ∧ w.cell? ⟨b, 9, none⟩ = some v9 ∧ w.cell? ⟨b, 10, none⟩ = some v10 :=
 ⟨h.cell 0 _ rfl, h.cell 1 _ rfl, h.cell 2 _ rfl, h.cell 3 _ rfl, h.cell 4 _ rfl, h.cell 5 _ rfl, h.cell 6 _ rfl, h.cell 7 _ rfl, h.cell 8 _ rfl, h.cell 9 _ rfl, h.cell 10 _ rfl⟩

end Go.Proofs.YtbbbfjcikhpmbaaGreat

/- What a text is cut into, as plain functions on lists of bytes; no program in sight. -/

namespace Go.Proofs.YtbbbfjcikhpmbaaGreat
open Go Go.RowKit

abbrev Bs := List UInt8
def bs (l : Bs) : S := ⟨l.toArray⟩
def cBlank (c : UInt8) : Bool := c.toNat == 32 || c.toNat == 9 || c.toNat == 10 || c.toNat == 13
def cDigit (c : UInt8) : Bool := decide (48 ≤ c.toNat) && decide (c.toNat ≤ 57)
def cFirst (c : UInt8) : Bool := (decide (65 ≤ c.toNat) && decide (c.toNat ≤ 90)) || (decide (97 ≤ c.toNat) && decide (c.toNat ≤ 122)) || c.toNat == 95
def cName (c : UInt8) : Bool := cFirst c || cDigit c || c.toNat == 46 || c.toNat == 45 || c.toNat == 58
def cText (c : UInt8) : Bool := decide (32 ≤ c.toNat) || cBlank c
def cLower (c : UInt8) : Bool := decide (97 ≤ c.toNat) && decide (c.toNat ≤ 122)
def span (p : UInt8 → Bool) : Bs → Nat
 | [] => 0
 | c :: l => if p c then span p l + 1 else 0
def nameLen : Bs → Nat
 | [] => 0
 | c :: l => if cFirst c then span cName (c :: l) else 0
/-! References. -/
inductive RefR where
 | ok (t : Bs) (n : Nat)
 | bad (e : Int)
/-- The value of a digit to the base 16 (hex) or 10; -1: it is none. -/
def digitV (c : UInt8) (hex : Bool) : Int :=
 if cDigit c then c.toNat - 48 else if hex && decide (97 ≤ c.toNat) && decide (c.toNat ≤ 102) then c.toNat - 87 else if hex && decide (65 ≤ c.toNat) && decide (c.toNat ≤ 70) then c.toNat - 55 else -1
def isDig (hex : Bool) (c : UInt8) : Bool := decide (0 ≤ digitV c hex)
def baseOf (hex : Bool) : Int := if hex then 16 else 10
def numV (hex : Bool) (l : Bs) : Int := l.foldl (fun k c => k * baseOf hex + digitV c hex) 0
def okLetter (n : Int) : Bool := decide (n = 9 ∨ n = 10 ∨ n = 13 ∨ (32 ≤ n ∧ n ≤ 1114111 ∧ ¬ (55296 ≤ n ∧ n ≤ 57343)))
def letterN (c : Nat) : Bs :=
 if c < 128 then [UInt8.ofNat c]
 else if c < 2048 then [UInt8.ofNat (192 + c / 64), UInt8.ofNat (128 + c % 64)]
 else if c < 65536 then [UInt8.ofNat (224 + c / 4096), UInt8.ofNat (128 + c / 64 % 64), UInt8.ofNat (128 + c % 64)]
 else [UInt8.ofNat (240 + c / 262144), UInt8.ofNat (128 + c / 4096 % 64), UInt8.ofNat (128 + c / 64 % 64), UInt8.ofNat (128 + c % 64)]
def letterB (n : Int) : Bs := letterN n.toNat
/-- A reference by a number: s stands behind the & and # (and x), ahead bytes. -/
def numRef (hex : Bool) (ahead : Nat) (s : Bs) : RefR :=
 if 8 < span (isDig hex) s then .bad 12
 else if span (isDig hex) s = s.length then .bad 13
 else if span (isDig hex) s = 0 ∨ s[span (isDig hex) s]? ≠ some 59 then .bad 12
 else if okLetter (numV hex (s.take (span (isDig hex) s))) then .ok (letterB (numV hex (s.take (span (isDig hex) s)))) (ahead + span (isDig hex) s + 1)
 else .bad 12
def wLt : Bs := [108, 116]
def wGt : Bs := [103, 116]
def wAmp : Bs := [97, 109, 112]
def wQuot : Bs := [113, 117, 111, 116]
def wApos : Bs := [97, 112, 111, 115]
def named (w : Bs) : Option UInt8 :=
 if w = wLt then some 60 else if w = wGt then some 62 else if w = wAmp then some 38 else if w = wQuot then some 34 else if w = wApos then some 39 else none
def refSpec : Bs → RefR
 | [] => .bad 13
 | c :: r => if c ≠ 38 then .bad 12 else match r with
  | 35 :: r' => (match r' with
   | 120 :: r'' => numRef true 3 r''
   | _ => numRef false 2 r')
  | _ =>
   if span cLower r = r.length then
    if r.isPrefixOf wLt || r.isPrefixOf wGt || r.isPrefixOf wAmp || r.isPrefixOf wQuot || r.isPrefixOf wApos then .bad 13 else .bad 12
   else match named (r.take (span cLower r)) with
    | some t => if r[span cLower r]? = some 59 then .ok [t] (span cLower r + 2) else .bad 12
    | none => .bad 12
/-! The reader. A result: a value and what is left; an error and where it is (what stands from there on). -/
inductive Res (α : Type) where
 | ok (a : α) (r : Bs)
 | bad (e : Int) (r : Bs)
def Res.map {α β : Type} (f : α → β) : Res α → Res β
 | .ok a r => .ok (f a) r
 | .bad e r => .bad e r
def Res.bind {α β : Type} (f : α → Bs → Res β) : Res α → Res β
 | .ok a r => f a r
 | .bad e r => .bad e r
def blanks : Bs → Bs
 | [] => []
 | c :: l => if cBlank c then blanks l else c :: l
def wantC (c : UInt8) : Bs → Res Unit
 | [] => .bad 13 []
 | x :: l => if x = c then .ok () l else .bad 10 (x :: l)
def nameR (e : Int) : Bs → Res Bs
 | [] => .bad 13 []
 | c :: l => if nameLen (c :: l) = 0 then .bad e (c :: l) else .ok ((c :: l).take (nameLen (c :: l))) ((c :: l).drop (nameLen (c :: l)))
/-- What stands up to an end, which is gone past, byte by byte. -/
def plain (til : Bs) : Bs → Res Bs
 | [] => if til.isPrefixOf [] then .ok [] (([] : Bs).drop til.length) else .bad 13 []
 | c :: l => if til.isPrefixOf (c :: l) then .ok [] ((c :: l).drop til.length) else if cText c then (plain til l).map (c :: ·) else .bad 10 (c :: l)
/-- Letters and references up to a byte or the end; skip: so many bytes are a reference's. -/
def lettersGo (stop : UInt8) : Nat → Bs → Res Bs
 | _, [] => .ok [] []
 | k + 1, _ :: l => lettersGo stop k l
 | 0, c :: l =>
  if c = stop then .ok [] (c :: l)
  else if c = 38 then match refSpec (c :: l) with
   | .ok t n => (lettersGo stop (n - 1) l).map (t ++ ·)
   | .bad e => .bad e (c :: l)
  else if c = 60 ∨ cText c = false then .bad 10 (c :: l)
  else (lettersGo stop 0 l).map (c :: ·)
def letters (stop : UInt8) (l : Bs) : Res Bs := lettersGo stop 0 l
def valueR : Bs → Res Bs
 | [] => .bad 13 []
 | q :: l => if q = 34 ∨ q = 39 then (letters q l).bind fun s r => match r with
     | [] => .bad 13 []
     | _ :: r' => .ok s r'
  else .bad 10 (q :: l)
abbrev At2 := Bs × Bs
/-- One attribute, no blanks ahead of it. -/
def attrR (acc : List At2) (l : Bs) : Res At2 :=
 (nameR 10 l).bind fun nm r => if acc.any (fun a => a.1 == nm) then .bad 15 l else
  (wantC 61 (blanks r)).bind fun _ r' => (valueR (blanks r')).map fun v => (nm, v)
/-- Do a tag's attributes end here? -/
def tagEnds (l : Bs) : Bool := decide ((blanks l).length = l.length) || (blanks l).isEmpty || (blanks l).head? == some 47 || (blanks l).head? == some 62
def attrsGo : Nat → List At2 → Bs → Res (List At2)
 | 0, _, l => .bad 13 l
 | f + 1, acc, l => if tagEnds l then .ok acc (blanks l) else match attrR acc (blanks l) with
  | .ok a r => attrsGo f (acc ++ [a]) r
  | .bad e r => .bad e r
def attrsR (l : Bs) : Res (List At2) := attrsGo (l.length + 1) [] l
structure Tk where
 kind : Int
 name : Bs
 attrs : List At2
 text : Bs
 deriving DecidableEq
def sNote : Bs := [60, 33, 45, 45]
def eNote : Bs := [45, 45, 62]
def sData : Bs := [60, 33, 91, 67, 68, 65, 84, 65, 91]
def eData : Bs := [93, 93, 62]
def sHead : Bs := [60, 63, 120, 109, 108]
def eHead : Bs := [63, 62]
def isHead (l : Bs) : Bool := sHead.isPrefixOf l && match l[5]? with
 | none => false
 | some c => cBlank c || c == 63
def closeR (l : Bs) : Res Tk := (nameR 11 l).bind fun nm r => (wantC 62 (blanks r)).map fun _ => ⟨3, nm, [], []⟩
def openR (l : Bs) : Res Tk := (nameR 11 l).bind fun nm r => (attrsR r).bind fun ats r' => match r' with
 | 47 :: r'' => (wantC 62 r'').map fun _ => ⟨2, nm, ats, []⟩
 | _ => (wantC 62 r').map fun _ => ⟨1, nm, ats, []⟩
def tokenR (first : Bool) (l : Bs) : Res Tk :=
 if sNote.isPrefixOf l then (plain eNote (l.drop 4)).map fun t => ⟨5, [], [], t⟩
 else if sData.isPrefixOf l then (plain eData (l.drop 9)).map fun t => ⟨4, [], [], t⟩
 else if first && isHead l then (plain eHead (l.drop 5)).map fun t => ⟨6, [], [], t⟩
 else match l with
  | 60 :: 47 :: l' => closeR l'
  | 60 :: l' => openR l'
  | _ => (letters 60 l).map fun t => ⟨4, [], [], t⟩
/-- The tokens, each with what stands from its beginning on. -/
def allGo : Nat → Bool → List (Tk × Bs) → Bs → Res (List (Tk × Bs))
 | _, _, acc, [] => .ok acc []
 | 0, _, _, l => .bad 13 l
 | f + 1, first, acc, l => match tokenR first l with
  | .ok t r => allGo f false (acc ++ [(t, l)]) r
  | .bad e r => .bad e r
def allR (l : Bs) : Res (List (Tk × Bs)) := allGo l.length true [] l
/-- Line and column behind a text. -/
def lineCol (l : Bs) : Nat × Nat := l.foldl (fun p c => if c = 10 then (p.1 + 1, 1) else (p.1, p.2 + 1)) (1, 1)
/-- How many bytes are ahead of what is left. -/
def off (T : Bs) (r : Bs) : Nat := T.length - r.length

end Go.Proofs.YtbbbfjcikhpmbaaGreat

/- Trees, and how one is built of tokens, as plain functions; no program in sight. -/

namespace Go.Proofs.YtbbbfjcikhpmbaaGreat
open Go Go.RowKit

inductive Tr where
 | mk (name : Bs) (attrs : List At2) (kids : List Tr) (text : Bs)
namespace Tr
def name : Tr → Bs
 | .mk n _ _ _ => n
def attrs : Tr → List At2
 | .mk _ a _ _ => a
def kids : Tr → List Tr
 | .mk _ _ k _ => k
def text : Tr → Bs
 | .mk _ _ _ x => x
end Tr
/-- What stands between the blanks at both ends. -/
def trimB (l : Bs) : Bs := ((l.dropWhile cBlank).reverse.dropWhile cBlank).reverse
/-- An element that is open. -/
structure Fr where
 name : Bs
 attrs : List At2
 kids : List Tr
def Fr.tree (f : Fr) : Tr := .mk f.name f.attrs f.kids []
def Fr.add (f : Fr) (t : Tr) : Fr := ⟨f.name, f.attrs, f.kids ++ [t]⟩
/-- The last kid's text grows. -/
def addText (s : Bs) : List Tr → List Tr
 | [] => []
 | [.mk n a k x] => [.mk n a k (x ++ s)]
 | t :: u :: l => t :: addText s (u :: l)
def Fr.more (f : Fr) (s : Bs) : Fr := ⟨f.name, f.attrs, addText s f.kids⟩
/-- The builder: the open elements, the innermost first; the root when it has ended; how many elements and texts there are; whether the last thing was a text. -/
structure BSt where
 stack : List Fr
 root : Option Tr
 count : Nat
 text : Bool
def st0 : BSt := ⟨[], none, 0, false⟩
inductive StR where
 | ok (st : BSt)
 | bad (e : Int)
def closeB (f : Fr) (l : List Fr) (root : Option Tr) (count : Nat) : BSt :=
 match l with
 | [] => ⟨[], some f.tree, count, false⟩
 | g :: l => ⟨g.add f.tree :: l, root, count, false⟩
def lettersB (st : BSt) (s : Bs) : StR :=
 match st.stack with
 | [] => if (trimB s).isEmpty then .ok st else .bad 16
 | f :: l =>
  if s.isEmpty then .ok st
  else if st.text then .ok ⟨f.more s :: l, st.root, st.count, true⟩
  else if 4096 < st.count + 1 then .bad 2
  else .ok ⟨f.add (.mk [] [] [] s) :: l, st.root, st.count + 1, true⟩
def beginB (st : BSt) (t : Tk) : StR :=
 if st.root.isSome then .bad 16
 else if 64 ≤ st.stack.length then .bad 2
 else if 4096 < st.count + 1 then .bad 2
 else .ok ⟨⟨t.name, t.attrs, []⟩ :: st.stack, st.root, st.count + 1, false⟩
def StR.close : StR → StR
 | .ok ⟨f :: l, r, c, _⟩ => .ok (closeB f l r c)
 | x => x
def endB (st : BSt) (t : Tk) : StR :=
 match st.stack with
 | [] => .bad 16
 | f :: l => if f.name = t.name then .ok (closeB f l st.root st.count) else .bad 14
def stepB (st : BSt) (t : Tk) : StR :=
 if t.kind = 4 then lettersB st t.text
 else if t.kind = 1 then beginB st t
 else if t.kind = 2 then (beginB st t).close
 else if t.kind = 3 then endB st t
 else .ok st
def runB : BSt → List (Tk × Bs) → Res Tr
 | st, [] => match st.stack with
  | _ :: _ => .bad 13 []
  | [] => match st.root with
   | some t => .ok t []
   | none => .bad 16 []
 | st, (t, r) :: l => match stepB st t with
  | .ok st' => runB st' l
  | .bad e => .bad e r
/-- The tree of a text, or its first error and where it is. -/
def buildR (l : Bs) : Res Tr :=
 match allR l with
 | .ok acc _ => runB st0 acc
 | .bad e r => .bad e r

end Go.Proofs.YtbbbfjcikhpmbaaGreat

/- Plain laws on what a text is cut into: what is left is an end of the text; no program in sight. -/
namespace Go.Proofs.YtbbbfjcikhpmbaaGreat
open Go Go.RowKit

theorem span_le (p : UInt8 → Bool) (l : Bs) : span p l ≤ l.length := by
 induction l with
 | nil => simp [span]
 | cons c l ih => simp only [span, List.length_cons]; split <;> omega
theorem nameLen_le (l : Bs) : nameLen l ≤ l.length := by
 cases l with
 | nil => simp [nameLen]
 | cons c l => simp only [nameLen]; split; exact span_le _ _; omega
theorem span_lt {p : UInt8 → Bool} {l : Bs} {i : Nat} (h : i < span p l) : ∃ c, l[i]? = some c ∧ p c = true := by
 induction l generalizing i with
 | nil => simp [span] at h
 | cons c l ih =>
  simp only [span] at h
  split at h
  · rename_i hp
    cases i with
    | zero => exact ⟨c, rfl, hp⟩
    | succ i => simpa using ih (by omega)
  · omega
theorem span_end {p : UInt8 → Bool} {l : Bs} {c : UInt8} (h : l[span p l]? = some c) : p c = false := by
 induction l with
 | nil => simp [span] at h
 | cons x l ih =>
  simp only [span] at h
  split at h
  · exact ih (by simpa using h)
  · simp at h; subst h; simpa using ‹¬ p x = true›
theorem blanks_suf (l : Bs) : blanks l <:+ l := by
 induction l with
 | nil => exact List.suffix_refl _
 | cons c l ih => simp only [blanks]; split; exact ih.trans (List.suffix_cons c l); exact List.suffix_refl _
theorem blanks_le (l : Bs) : (blanks l).length ≤ l.length := (blanks_suf l).length_le
/-- What is left of a result is an end of what there was. -/
def Res.Suf {α : Type} (l : Bs) : Res α → Prop
 | .ok _ r => r <:+ l
 | .bad _ r => r <:+ l
theorem Res.Suf.map {α β : Type} {l : Bs} {x : Res α} (f : α → β) (h : x.Suf l) : (x.map f).Suf l := by cases x <;> exact h
theorem Res.Suf.trans {α : Type} {l l' : Bs} {x : Res α} (h : x.Suf l) (h' : l <:+ l') : x.Suf l' := by cases x <;> exact List.IsSuffix.trans h h'
theorem Res.Suf.bind {α β : Type} {l : Bs} {x : Res α} {f : α → Bs → Res β} (h : x.Suf l) (hf : ∀ a r, x = .ok a r → (f a r).Suf r) : (x.bind f).Suf l := by
 cases x with
 | ok a r => exact (hf a r rfl).trans h
 | bad e r => exact h
theorem wantC_suf (c : UInt8) (l : Bs) : (wantC c l).Suf l := by
 cases l with
 | nil => exact List.suffix_refl _
 | cons x l => simp only [wantC]; split; exact List.suffix_cons x l; exact List.suffix_refl _
theorem nameR_suf (e : Int) (l : Bs) : (nameR e l).Suf l := by
 cases l with
 | nil => exact List.suffix_refl _
 | cons x l => simp only [nameR]; split; exact List.suffix_refl _; exact List.drop_suffix _ _
theorem plain_suf (til l : Bs) : (plain til l).Suf l := by
 induction l with
 | nil => simp only [plain]; split; exact List.drop_suffix _ _; exact List.suffix_refl _
 | cons c l ih =>
  simp only [plain]
  split
  · exact List.drop_suffix _ _
  · split
    · exact (ih.trans (List.suffix_cons c l)).map _
    · exact List.suffix_refl _
theorem lettersGo_suf (stop : UInt8) (k : Nat) (l : Bs) : (lettersGo stop k l).Suf l := by
 induction l generalizing k with
 | nil => cases k <;> exact List.suffix_refl _
 | cons c l ih =>
  cases k with
  | succ k => exact (ih k).trans (List.suffix_cons c l)
  | zero =>
   simp only [lettersGo]
   split
   · exact List.suffix_refl _
   · split
     · cases refSpec (c :: l) with
       | ok t n => exact ((ih _).trans (List.suffix_cons c l)).map _
       | bad e => exact List.suffix_refl _
     · split
       · exact List.suffix_refl _
       · exact ((ih 0).trans (List.suffix_cons c l)).map _
theorem lettersGo_drop (stop : UInt8) (k : Nat) (l : Bs) : lettersGo stop k l = lettersGo stop 0 (l.drop k) := by
 induction l generalizing k with
 | nil => cases k <;> rfl
 | cons c l ih =>
  cases k with
  | zero => rfl
  | succ k => simp only [lettersGo, List.drop_succ_cons]; exact ih k
theorem letters_suf (stop : UInt8) (l : Bs) : (letters stop l).Suf l := lettersGo_suf stop 0 l
theorem valueR_suf (l : Bs) : (valueR l).Suf l := by
 cases l with
 | nil => exact List.suffix_refl _
 | cons q l =>
  simp only [valueR]
  split
  · refine Res.Suf.trans (Res.Suf.bind (letters_suf q l) fun s r _ => ?_) (List.suffix_cons q l)
    cases r with
    | nil => exact List.suffix_refl _
    | cons x r => exact List.suffix_cons x r
  · exact List.suffix_refl _
theorem attrR_suf (acc : List At2) (l : Bs) : (attrR acc l).Suf l := by
 unfold attrR
 cases h : nameR 10 l with
 | bad e r => have := nameR_suf 10 l; rw [h] at this; exact this
 | ok nm r =>
  have hs := nameR_suf 10 l
  rw [h] at hs
  simp only [Res.bind]
  split
  · exact List.suffix_refl _
  · refine Res.Suf.trans (l := r) (Res.Suf.trans (l := blanks r) (Res.Suf.bind (wantC_suf _ _) fun _ r' _ => ?_) (blanks_suf r)) hs
    exact ((valueR_suf _).map _).trans (blanks_suf r')
theorem attrsGo_suf (f : Nat) (acc : List At2) (l : Bs) : (attrsGo f acc l).Suf l := by
 induction f generalizing acc l with
 | zero => exact List.suffix_refl _
 | succ f ih =>
  simp only [attrsGo]
  split
  · exact blanks_suf l
  · cases h : attrR acc (blanks l) with
    | ok a r => have := attrR_suf acc (blanks l); rw [h] at this; exact (ih _ r).trans (List.IsSuffix.trans this (blanks_suf l))
    | bad e r => have := attrR_suf acc (blanks l); rw [h] at this; exact List.IsSuffix.trans this (blanks_suf l)
theorem attrsR_suf (l : Bs) : (attrsR l).Suf l := attrsGo_suf _ _ _
theorem closeR_suf (l : Bs) : (closeR l).Suf l := Res.Suf.bind (nameR_suf _ _) fun _ r _ => ((wantC_suf _ _).trans (blanks_suf r)).map _
theorem openR_suf (l : Bs) : (openR l).Suf l := Res.Suf.bind (nameR_suf _ _) fun nm r _ => Res.Suf.bind (attrsR_suf r) fun ats r' _ => by
 split
 · exact ((wantC_suf _ _).trans (List.suffix_cons _ _)).map _
 · exact (wantC_suf _ _).map _
theorem tokenR_suf (first : Bool) (l : Bs) : (tokenR first l).Suf l := by
 unfold tokenR
 split
 · exact ((plain_suf _ _).trans (List.drop_suffix _ _)).map _
 · split
   · exact ((plain_suf _ _).trans (List.drop_suffix _ _)).map _
   · split
     · exact ((plain_suf _ _).trans (List.drop_suffix _ _)).map _
     · split
       · exact (closeR_suf _).trans ((List.suffix_cons _ _).trans (List.suffix_cons _ _))
       · exact (openR_suf _).trans (List.suffix_cons _ _)
       · exact (letters_suf _ _).map _
theorem suf_tail {T r : Bs} {c : UInt8} (h : c :: r <:+ T) : r <:+ T := (List.suffix_cons c r).trans h
theorem bs_size (l : Bs) : (bs l).size = l.length := by simp [bs, ByteArray.size]
theorem bs_data (l : Bs) : (bs l).data.toList = l := by simp [bs]
theorem data_bs (s : S) : bs s.data.toList = s := Lib.mk_data s
theorem bs_extract (l : Bs) (a b : Nat) : (bs l).extract a b = bs ((l.drop a).take (b - a)) := by rw [Lib.extract_eq, bs_data]; rfl
theorem bs_append (l m : Bs) : bs l ++ bs m = bs (l ++ m) := by
 apply ByteArray.ext
 simp [bs, ByteArray.data_append]

end Go.Proofs.YtbbbfjcikhpmbaaGreat

/- Plain laws: the program's ways to look for an end, a line, a column come to the document's; no program in sight. -/
namespace Go.Proofs.YtbbbfjcikhpmbaaGreat
open Go Go.RowKit

/-- What stands up to an end, by the place of the end. -/
def untilP (til l : Bs) : Res Bs :=
 if 0 ≤ Lib.index l til then
  if span cText (l.take (Lib.index l til).toNat) < (Lib.index l til).toNat then .bad 10 (l.drop (span cText (l.take (Lib.index l til).toNat)))
  else .ok (l.take (Lib.index l til).toNat) (l.drop ((Lib.index l til).toNat + til.length))
 else if span cText l < l.length then .bad 10 (l.drop (span cText l)) else .bad 13 []
theorem plain_until {til : Bs} (ht : til ≠ []) (l : Bs) : plain til l = untilP til l := by
 have hp0 : til.isPrefixOf [] = false := by cases til with
  | nil => exact absurd rfl ht
  | cons a t => rfl
 induction l with
 | nil =>
  have hi : Lib.index [] til = -1 := by
   unfold Lib.index
   cases til with
   | nil => exact absurd rfl ht
   | cons a t => rfl
  unfold untilP plain
  rw [hi, hp0]; simp [span]
 | cons c l ih =>
  have hge := Lib.index_ge l til
  simp only [plain]
  by_cases hp : til.isPrefixOf (c :: l)
  · have hi : Lib.index (c :: l) til = 0 := by simp [Lib.index, hp]
    unfold untilP
    rw [if_pos hp, hi]; simp
  · rw [if_neg hp, ih]
    by_cases hl : Lib.index l til = -1
    · have hi : Lib.index (c :: l) til = -1 := by simp [Lib.index, hp, hl]
      unfold untilP
      rw [hi, hl]
      simp only [show ¬ (0 : Int) ≤ -1 by decide, if_false, span, List.length_cons]
      by_cases hc : cText c = true
      rotate_left
      · simp [hc]
      · simp only [hc, if_true]
        by_cases h2 : span cText l < l.length
        · rw [if_pos h2, if_pos (by omega)]; rfl
        · rw [if_neg h2, if_neg (by omega)]; rfl
    · have hi : Lib.index (c :: l) til = Lib.index l til + 1 := by simp [Lib.index, hp, hl]
      unfold untilP
      have hn0 : 0 ≤ Lib.index l til := by omega
      rw [hi, if_pos hn0, if_pos (show 0 ≤ Lib.index l til + 1 by omega)]
      have hn : (Lib.index l til + 1).toNat = (Lib.index l til).toNat + 1 := by omega
      rw [hn, List.take_succ_cons]
      simp only [span]
      by_cases hc : cText c = true
      rotate_left
      · simp [hc]
      · simp only [hc, if_true]
        by_cases h2 : span cText (l.take (Lib.index l til).toNat) < (Lib.index l til).toNat
        · rw [if_pos h2, if_pos (by omega)]; rfl
        · rw [if_neg h2, if_neg (by omega)]
          show Res.ok _ _ = _
          rw [show (Lib.index l til).toNat + 1 + til.length = (Lib.index l til).toNat + til.length + 1 by omega]; rfl
theorem lineCol_snoc (l : Bs) (c : UInt8) : lineCol (l ++ [c]) = if c = 10 then ((lineCol l).1 + 1, 1) else ((lineCol l).1, (lineCol l).2 + 1) := by
 unfold lineCol; rw [List.foldl_append]; rfl
theorem snoc_ind {P : Bs → Prop} (h0 : P []) (h1 : ∀ l c, P l → P (l ++ [c])) (l : Bs) : P l := by
 have h : ∀ m : Bs, P m.reverse := fun m => by
  induction m with
  | nil => exact h0
  | cons c m ih => rw [List.reverse_cons]; exact h1 _ _ ih
 have := h l.reverse
 rwa [List.reverse_reverse] at this
theorem lineCol_pos (l : Bs) : 1 ≤ (lineCol l).1 ∧ 1 ≤ (lineCol l).2 ∧ (lineCol l).1 ≤ l.length + 1 ∧ (lineCol l).2 ≤ l.length + 1 := by
 induction l using snoc_ind with
 | h0 => decide
 | h1 l c ih =>
 rw [lineCol_snoc]
 simp only [List.length_append, List.length_singleton]
 split <;> simp <;> omega
theorem lineCol_line (l : Bs) : (lineCol l).1 = 1 + l.count 10 := by
 induction l using snoc_ind with
 | h0 => rfl
 | h1 l c ih =>
 rw [lineCol_snoc, List.count_append]
 split
 · rename_i h; subst h; simp [ih]; omega
 · rename_i h; simp [ih, h]
theorem lastIdx_congr {s t : ByteArray} {c : Int} (k : Nat) (h : ∀ j, j < k → s.data[j]! = t.data[j]!) : Lib.lastIdx s c k = Lib.lastIdx t c k := by
 induction k with
 | zero => rfl
 | succ k ih => simp only [Lib.lastIdx]; rw [h k (by omega), ih fun j hj => h j (by omega)]
theorem bs_bang (l : Bs) (j : Nat) (h : j < l.length) : (bs l).data[j]! = l[j] := by
 rw [getElem!_pos (bs l).data j (by simpa [bs] using h)]; simp [bs]
theorem lineCol_col (l : Bs) : Lib.lastIndexByte (bs l) 10 = (l.length : Int) - (lineCol l).2 := by
 induction l using snoc_ind with
 | h0 => rfl
 | h1 l c ih =>
 unfold Lib.lastIndexByte at ih ⊢
 rw [bs_size] at ih ⊢
 rw [lineCol_snoc, List.length_append, List.length_singleton]
 simp only [Lib.lastIdx]
 rw [bs_bang _ _ (by simp)]
 have e : (l ++ [c])[l.length]'(by simp) = c := by simp
 rw [e]
 by_cases h : c = 10
 · subst h; simp
 · have h' : ¬ ((c.toNat : Nat) : Int) = 10 := fun e => h (UInt8.toNat_inj.1 (by simpa using (by omega : c.toNat = 10)))
   rw [if_neg h', if_neg h, lastIdx_congr (t := bs l) l.length (fun j hj => by rw [bs_bang _ _ (by simp; omega), bs_bang _ _ hj]; simp [hj]), ih]
   simp; omega
theorem lastOcc_one (l : Bs) (c : UInt8) (k : Nat) (hk : k ≤ l.length) : Lib.lastOcc l [c] k = Lib.lastIdx (bs l) c.toNat k := by
 induction k with
 | zero => rfl
 | succ k ih =>
  have hl : k < l.length := by omega
  have ho : Lib.occAt l [c] k = decide (l[k] = c) := by
   unfold Lib.occAt
   rw [List.drop_eq_getElem_cons hl]
   simp only [List.isPrefixOf, Bool.and_true]
   by_cases e : c = l[k]
   · simp [← e]
   · simp [e, Ne.symm e]
  simp only [Lib.lastIdx]
  rw [bs_bang _ _ hl]
  by_cases h : l[k] = c
  · rw [Lib.lastOcc_hit _ _ _ (by rw [ho]; simpa using h), if_pos (by rw [h])]
  · rw [Lib.lastOcc_miss _ _ _ (by rw [ho]; simpa using h), ih (by omega), if_neg]
    intro e; exact h (UInt8.toNat_inj.1 (by omega))
theorem lastIndex_one (l : Bs) : Lib.lastIndex l [10] = (l.length : Int) - (lineCol l).2 := by
 rw [← lineCol_col]
 unfold Lib.lastIndex Lib.lastIndexByte
 rw [bs_size]
 cases l with
 | nil => rfl
 | cons c l =>
  rw [if_pos (by simp), show (c :: l).length - ([10] : Bs).length + 1 = (c :: l).length by simp, lastOcc_one _ _ _ (Nat.le_refl _)]; rfl

end Go.Proofs.YtbbbfjcikhpmbaaGreat

/- Walks of the predicates on bytes, the program's and the document's; their conditions stand in the theorems. -/
namespace Go.Proofs.YtbbbfjcikhpmbaaGreat
open Go Go.RowKit

theorem isBlank_any (c : UInt8) (w : World) : Calls Tryz.prog 129 #[.int .u8 c.toNat] w fun e w' => e = .returned (.bool (cBlank c)) ∧ w = w' := by
 go_enter Tryz.func129, Tryz.ntmps129
 go_wp2
 all_goals (go_ret; exact ⟨ret_bool (by rw [Bool.eq_iff_iff]; simp [cBlank]; omega), rfl⟩)
theorem isDigit_any (c : UInt8) (w : World) : Calls Tryz.prog 86 #[.int .u8 c.toNat] w fun e w' => e = .returned (.bool (cDigit c)) ∧ w = w' := by
 go_enter Tryz.func86, Tryz.ntmps86
 go_wp2
 all_goals (go_ret; exact ⟨ret_bool (by rw [Bool.eq_iff_iff]; simp [cDigit]; omega), rfl⟩)
theorem isLower_any (c : UInt8) (w : World) : Calls Tryz.prog 162 #[.int .u8 c.toNat] w fun e w' => e = .returned (.bool (cLower c)) ∧ w = w' := by
 go_enter Tryz.func162, Tryz.ntmps162
 go_wp2
 all_goals (go_ret; exact ⟨ret_bool (by rw [Bool.eq_iff_iff]; simp [cLower]; omega), rfl⟩)
set_option maxHeartbeats 1000000 in
theorem isFirst_any (c : UInt8) (w : World) : Calls Tryz.prog 131 #[.int .u8 c.toNat] w fun e w' => e = .returned (.bool (cFirst c)) ∧ w = w' := by
 go_enter Tryz.func131, Tryz.ntmps131
 go_wp2
 all_goals (go_ret; exact ⟨ret_bool (by rw [Bool.eq_iff_iff]; simp [cFirst]; omega), rfl⟩)
set_option maxHeartbeats 1000000 in
theorem isText_any (c : UInt8) (w : World) : Calls Tryz.prog 100 #[.int .u8 c.toNat] w fun e w' => e = .returned (.bool (cText c)) ∧ w = w' := by
 by_cases h : 32 ≤ (c.toNat : Int)
 · go_enter Tryz.func100, Tryz.ntmps100
   go_wp2
   go_ret
   exact ⟨ret_bool (by have : 32 ≤ c.toNat := by omega
                       simp [cText, this]), rfl⟩
 · go_enter Tryz.func100, Tryz.ntmps100
   go_wp2_with (go_at_call 129; refine (isBlank_any c _).mono ?_; rintro e w' ⟨rfl, rfl⟩)
   go_ret
   exact ⟨ret_bool (by have : ¬ 32 ≤ c.toNat := by omega
                       simp [cText, this]), rfl⟩
set_option maxHeartbeats 1000000 in
theorem isName_any (c : UInt8) (w : World) : Calls Tryz.prog 120 #[.int .u8 c.toNat] w fun e w' => e = .returned (.bool (cName c)) ∧ w = w' := by
 cases h1 : cFirst c
 · cases h2 : cDigit c
   · go_enter Tryz.func120, Tryz.ntmps120
     go_wp2_with (first | (go_at_call 131; refine (isFirst_any c _).mono ?_; rintro e w' ⟨rfl, rfl⟩; rw [h1]) | (go_at_call 86; refine (isDigit_any c _).mono ?_; rintro e w' ⟨rfl, rfl⟩; rw [h2]))
     all_goals (go_ret; exact ⟨ret_bool (by rw [Bool.eq_iff_iff]; simp [cName, h1, h2]; omega), rfl⟩)
   · go_enter Tryz.func120, Tryz.ntmps120
     go_wp2_with (first | (go_at_call 131; refine (isFirst_any c _).mono ?_; rintro e w' ⟨rfl, rfl⟩; rw [h1]) | (go_at_call 86; refine (isDigit_any c _).mono ?_; rintro e w' ⟨rfl, rfl⟩; rw [h2]))
     go_ret
     exact ⟨ret_bool (by simp [cName, h2]), rfl⟩
 · go_enter Tryz.func120, Tryz.ntmps120
   go_wp2_with (go_at_call 131; refine (isFirst_any c _).mono ?_; rintro e w' ⟨rfl, rfl⟩; rw [h1])
   go_ret
   exact ⟨ret_bool (by simp [cName, h1]), rfl⟩
/-- The document's class of a byte. -/
def classV (c : UInt8) : Int := (if cBlank c then 1 else 0) + (if cDigit c then 10 else 0) + (if cFirst c then 12 else 0) + (if c.toNat = 46 ∨ c.toNat = 45 ∨ c.toNat = 58 then 8 else 0) + (if cText c then 16 else 0)
set_option maxRecDepth 100000 in
set_option maxHeartbeats 4000000 in
theorem class_eq (c : UInt8) (w : World) (h : c.toNat = 9 ∨ c.toNat = 10 ∨ c.toNat = 13 ∨ c.toNat = 32 ∨ c.toNat = 45 ∨ c.toNat = 46 ∨ c.toNat = 58 ∨ c.toNat = 95) : Calls Tryz.prog 128 #[.int .u8 c.toNat] w fun e w' => e = .returned (.int .i64 (classV c)) ∧ w = w' := by
 rcases h with h | h | h | h | h | h | h | h
 all_goals
  rw [h]
  have HH := Lib.hid h
  clear h
  go_enter Tryz.func128, Tryz.ntmps128
  go_wp2
  go_ret
  exact ⟨ret_int (by simp [classV, cBlank, cDigit, cFirst, cText, HH.out]), rfl⟩
set_option maxRecDepth 100000 in
set_option maxHeartbeats 8000000 in
theorem class_ne (c : UInt8) (w : World) (e1 : ((c.toNat : Int) == 9) = false) (e2 : ((c.toNat : Int) == 10) = false) (e3 : ((c.toNat : Int) == 13) = false) (e4 : ((c.toNat : Int) == 32) = false) (e5 : ((c.toNat : Int) == 45) = false) (e6 : ((c.toNat : Int) == 46) = false) (e7 : ((c.toNat : Int) == 58) = false) (e8 : ((c.toNat : Int) == 95) = false) :
    Calls Tryz.prog 128 #[.int .u8 c.toNat] w fun e w' => e = .returned (.int .i64 (classV c)) ∧ w = w' := by
 have hc : (c.toNat : Int) < 32 ∨ (32 < (c.toNat : Int) ∧ (c.toNat : Int) < 48) ∨ (48 ≤ (c.toNat : Int) ∧ (c.toNat : Int) ≤ 57) ∨ (57 < (c.toNat : Int) ∧ (c.toNat : Int) < 65) ∨ (65 ≤ (c.toNat : Int) ∧ (c.toNat : Int) ≤ 90) ∨ (90 < (c.toNat : Int) ∧ (c.toNat : Int) < 97) ∨ (97 ≤ (c.toNat : Int) ∧ (c.toNat : Int) ≤ 122) ∨ 122 < (c.toNat : Int) := by
  have : c.toNat ≠ 32 := by intro h; simp [h] at e4
  omega
 have f1 : c.toNat ≠ 9 := by intro h; simp [h] at e1
 have f2 : c.toNat ≠ 10 := by intro h; simp [h] at e2
 have f3 : c.toNat ≠ 13 := by intro h; simp [h] at e3
 have f4 : c.toNat ≠ 32 := by intro h; simp [h] at e4
 have f5 : c.toNat ≠ 45 := by intro h; simp [h] at e5
 have f6 : c.toNat ≠ 46 := by intro h; simp [h] at e6
 have f7 : c.toNat ≠ 58 := by intro h; simp [h] at e7
 have f8 : c.toNat ≠ 95 := by intro h; simp [h] at e8
 have H : Hid (classV c = (if 48 ≤ c.toNat ∧ c.toNat ≤ 57 then 10 else 0) + (if (65 ≤ c.toNat ∧ c.toNat ≤ 90) ∨ (97 ≤ c.toNat ∧ c.toNat ≤ 122) then 12 else 0) + (if 32 ≤ c.toNat then 16 else 0)) := by
  show _ = _
  simp [classV, cBlank, cDigit, cFirst, cText, f1, f2, f3, f4, f5, f6, f7, f8]
 clear f1 f2 f3 f4 f5 f6 f7 f8
 rcases hc with h | ⟨h, h'⟩ | ⟨h, h'⟩ | ⟨h, h'⟩ | ⟨h, h'⟩ | ⟨h, h'⟩ | ⟨h, h'⟩ | h
 all_goals
  go_enter Tryz.func128, Tryz.ntmps128
  go_wp2
  go_ret
  exact ⟨ret_int (by rw [H.out]; simp (disch := omega) [if_pos, if_neg]), rfl⟩
theorem class_any (c : UInt8) (w : World) : Calls Tryz.prog 128 #[.int .u8 c.toNat] w fun e w' => e = .returned (.int .i64 (classV c)) ∧ w = w' := by
 by_cases h : c.toNat = 9 ∨ c.toNat = 10 ∨ c.toNat = 13 ∨ c.toNat = 32 ∨ c.toNat = 45 ∨ c.toNat = 46 ∨ c.toNat = 58 ∨ c.toNat = 95
 · exact class_eq c w h
 · refine class_ne c w ?_ ?_ ?_ ?_ ?_ ?_ ?_ ?_ <;> (simp; omega)
theorem classV_is (c : UInt8) : (classV c % 2 = 1 ↔ cBlank c = true) ∧ (classV c / 4 % 2 = 1 ↔ cFirst c = true) ∧ (classV c / 8 % 2 = 1 ↔ cName c = true) ∧ (classV c / 16 % 2 = 1 ↔ cText c = true) ∧ 0 ≤ classV c ∧ classV c < 64 := by
 have h : ∀ n : Fin 256, (classV (UInt8.ofNat n) % 2 = 1 ↔ cBlank (UInt8.ofNat n) = true) ∧ (classV (UInt8.ofNat n) / 4 % 2 = 1 ↔ cFirst (UInt8.ofNat n) = true) ∧ (classV (UInt8.ofNat n) / 8 % 2 = 1 ↔ cName (UInt8.ofNat n) = true) ∧ (classV (UInt8.ofNat n) / 16 % 2 = 1 ↔ cText (UInt8.ofNat n) = true) ∧ 0 ≤ classV (UInt8.ofNat n) ∧ classV (UInt8.ofNat n) < 64 := by decide +kernel
 have := h ⟨c.toNat, c.toNat_lt⟩
 simpa using this

end Go.Proofs.YtbbbfjcikhpmbaaGreat

/- Walks of the document's Is and of span and Name, the program's and the document's; their conditions stand in the theorems. -/
namespace Go.Proofs.YtbbbfjcikhpmbaaGreat
open Go Go.RowKit

theorem drop_byte (s : S) (k : Nat) (h : k < s.size) : s.data.toList.drop k = s[k] :: s.data.toList.drop (k + 1) := by
 rw [List.drop_eq_getElem_cons (by simpa using h)]; rfl
theorem size_data (s : S) : s.data.toList.length = s.size := (Lib.size_eq s).symm
set_option maxHeartbeats 1000000 in
theorem is1_any (c : UInt8) (w : World) : Calls Tryz.prog 98 #[.int .u8 c.toNat, .int .i64 1] w fun e w' => e = .returned (.bool (cBlank c)) ∧ w = w' := by
 have h1 := Lib.hid (classV_is c)
 have h2 := (classV_is c).2.2.2.2.1
 have h3 := (classV_is c).2.2.2.2.2
 have hc := class_any c w
 have HC := Lib.hid hc
 clear hc
 generalize classV c = v at *
 go_enter Tryz.func98, Tryz.ntmps98
 go_wp2_with (go_at_call 128; refine HC.out.mono ?_; rintro e w' ⟨rfl, rfl⟩)
 go_ret
 refine ⟨ret_bool ?_, rfl⟩
 have h4 := h1.out.1
 cases hp : cBlank c <;> rw [hp] at h4 <;> simp at h4 ⊢ <;> omega
set_option maxHeartbeats 1000000 in
theorem spanName_any (s : S) (w : World) (hs : s.size ≤ 9223372036854775807) :
    Calls Tryz.prog 130 #[.string s, .func (.func 120) #[] #[]] w fun e w' => e = .returned (.int .i64 (span (cName) s.data.toList)) ∧ w = w' := by
 have hsp := span_le (cName) s.data.toList
 rw [size_data] at hsp
 go_enter Tryz.func130, Tryz.ntmps130
 go_wp2
 go_loop [5] (fun i => ∃ k : Nat, k ≤ s.size ∧ i = .int .i64 k ∧ Hid (span (cName) s.data.toList = k + span (cName) (s.data.toList.drop k))) (fun i => s.size - (intOf i).toNat)
 case atStart => exact ⟨0, Nat.zero_le _, rfl, by show _ = _; simp⟩
 case round =>
  obtain ⟨k, hk, rfl, H⟩ := hrel
  by_cases hlt : k < s.size
  · have HD := Lib.hid (drop_byte s k hlt)
    cases hp : cName s[k]
    all_goals
     have HP := Lib.hid hp
     clear hp
     go_wp2_with (go_at_call 120; refine (isName_any _ _).mono ?_; rintro e w' ⟨rfl, rfl⟩; rw [HP.out])
    · go_ret
      exact ⟨ret_int (by rw [H.out, HD.out]; simp [span, HP.out]), rfl⟩
    · go_round
      case rel => exact ⟨k + 1, by omega, by go_num, by show _ = _; rw [H.out, HD.out]; simp only [span, HP.out, if_true]; omega⟩
      case measure => simp [intOf]; omega
  · go_wp2
    go_ret
    exact ⟨ret_int (by rw [H.out, List.drop_of_length_le (by rw [size_data]; omega)]; simp [span]), rfl⟩
set_option maxHeartbeats 1000000 in
theorem spanLower_any (s : S) (w : World) (hs : s.size ≤ 9223372036854775807) :
    Calls Tryz.prog 130 #[.string s, .func (.func 162) #[] #[]] w fun e w' => e = .returned (.int .i64 (span (cLower) s.data.toList)) ∧ w = w' := by
 have hsp := span_le (cLower) s.data.toList
 rw [size_data] at hsp
 go_enter Tryz.func130, Tryz.ntmps130
 go_wp2
 go_loop [5] (fun i => ∃ k : Nat, k ≤ s.size ∧ i = .int .i64 k ∧ Hid (span (cLower) s.data.toList = k + span (cLower) (s.data.toList.drop k))) (fun i => s.size - (intOf i).toNat)
 case atStart => exact ⟨0, Nat.zero_le _, rfl, by show _ = _; simp⟩
 case round =>
  obtain ⟨k, hk, rfl, H⟩ := hrel
  by_cases hlt : k < s.size
  · have HD := Lib.hid (drop_byte s k hlt)
    cases hp : cLower s[k]
    all_goals
     have HP := Lib.hid hp
     clear hp
     go_wp2_with (go_at_call 162; refine (isLower_any _ _).mono ?_; rintro e w' ⟨rfl, rfl⟩; rw [HP.out])
    · go_ret
      exact ⟨ret_int (by rw [H.out, HD.out]; simp [span, HP.out]), rfl⟩
    · go_round
      case rel => exact ⟨k + 1, by omega, by go_num, by show _ = _; rw [H.out, HD.out]; simp only [span, HP.out, if_true]; omega⟩
      case measure => simp [intOf]; omega
  · go_wp2
    go_ret
    exact ⟨ret_int (by rw [H.out, List.drop_of_length_le (by rw [size_data]; omega)]; simp [span]), rfl⟩

end Go.Proofs.YtbbbfjcikhpmbaaGreat

/- Walks of Name, the program's and the document's; their conditions stand in the theorems. -/

namespace Go.Proofs.YtbbbfjcikhpmbaaGreat
open Go Go.RowKit

theorem empty_data (s : S) : s.toList.isEmpty = decide (s.size = 0) := by
 have h : s.toList.length = s.size := by rw [ByteArray.toList_eq]; exact size_data s
 rw [← h]
 cases s.toList <;> simp
set_option maxHeartbeats 1000000 in
theorem name_any (s : S) (w : World) (hs : s.size ≤ 9223372036854775807) :
    Calls Tryz.prog 103 #[.string s] w fun e w' => e = .returned (.int .i64 (nameLen s.data.toList)) ∧ w = w' := by
 have hE0 := empty_data s
 by_cases h0 : s.size = 0
 · have hE : s.toList.isEmpty = true := by rw [hE0]; simpa using h0
   clear hE0
   have hd : s.data.toList = [] := List.eq_nil_of_length_eq_zero (by rw [size_data, h0])
   rw [hd]
   clear hd h0
   go_enter Tryz.func103, Tryz.ntmps103
   go_wp2
   go_ret
   exact ⟨rfl, rfl⟩
 · have hE : s.toList.isEmpty = false := by rw [hE0]; simpa using h0
   clear hE0
   have h1 : 0 < s.size := by omega
   have HD := Lib.hid (drop_byte s 0 h1)
   clear h0
   cases hp : cFirst s[0]
   all_goals
    have HP := Lib.hid hp
    clear hp
    go_enter Tryz.func103, Tryz.ntmps103
    go_wp2_with (first | (go_at_call 131; refine (isFirst_any _ _).mono ?_; rintro e w' ⟨rfl, rfl⟩; rw [HP.out]) | (go_at_call 130; refine (spanName_any s _ hs).mono ?_; rintro e w' ⟨rfl, rfl⟩))
    go_ret
    refine ⟨ret_int ?_, rfl⟩
    have h2 := HD.out
    rw [List.drop_zero] at h2
    rw [h2]
    simp [nameLen, HP.out]

end Go.Proofs.YtbbbfjcikhpmbaaGreat

/- Walks of digit, Letter, named; their conditions stand in the theorems. -/
namespace Go.Proofs.YtbbbfjcikhpmbaaGreat
open Go Go.RowKit

theorem digitV_le (c : UInt8) (hex : Bool) : -1 ≤ digitV c hex ∧ digitV c hex ≤ 15 := by
 have := c.toNat_lt
 unfold digitV
 split
 · rename_i h; simp [cDigit] at h; omega
 · split
   · rename_i h; simp at h; omega
   · split
     · rename_i h; simp at h; omega
     · omega
set_option maxHeartbeats 1000000 in
theorem digit_any (c : UInt8) (hex : Bool) (w : World) : Calls Tryz.prog 167 #[.int .u8 c.toNat, .int .i64 (baseOf hex)] w fun e w' => e = .returned (.int .i64 (digitV c hex)) ∧ w = w' := by
 have hlt := c.toNat_lt
 cases hd : cDigit c
 · have HD := Lib.hid hd
   have hd' : ¬ (48 ≤ c.toNat ∧ c.toNat ≤ 57) := by simpa [cDigit] using hd
   clear hd
   cases hex
   · simp only [baseOf, Bool.false_eq_true, if_false]
     go_enter Tryz.func167, Tryz.ntmps167
     go_wp2_with (go_at_call 86; refine (isDigit_any _ _).mono ?_; rintro e w' ⟨rfl, rfl⟩; rw [HD.out])
     go_ret
     exact ⟨ret_int (by simp [digitV, HD.out]), rfl⟩
   · simp only [baseOf, if_true]
     have hc : (c.toNat : Int) < 65 ∨ (65 ≤ (c.toNat : Int) ∧ (c.toNat : Int) ≤ 70) ∨ (70 < (c.toNat : Int) ∧ (c.toNat : Int) < 97) ∨ (97 ≤ (c.toNat : Int) ∧ (c.toNat : Int) ≤ 102) ∨ 102 < (c.toNat : Int) := by omega
     rcases hc with h | ⟨h, h'⟩ | ⟨h, h'⟩ | ⟨h, h'⟩ | h
     all_goals
      go_enter Tryz.func167, Tryz.ntmps167
      go_wp2_with (go_at_call 86; refine (isDigit_any _ _).mono ?_; rintro e w' ⟨rfl, rfl⟩; rw [HD.out])
      go_ret
      refine ⟨ret_int ?_, rfl⟩
      simp (disch := omega) [digitV, HD.out, if_pos, if_neg]
      try omega
 · have HD := Lib.hid hd
   have hd' : 48 ≤ (c.toNat : Int) ∧ (c.toNat : Int) ≤ 57 := by simp [cDigit] at hd; omega
   obtain ⟨hd1, hd2⟩ := hd'
   clear hd
   go_enter Tryz.func167, Tryz.ntmps167
   go_wp2_with (go_at_call 86; refine (isDigit_any _ _).mono ?_; rintro e w' ⟨rfl, rfl⟩; rw [HD.out])
   go_ret
   exact ⟨ret_int (by simp [digitV, HD.out]), rfl⟩
/-- What named returns. -/
def namedB (w : Bs) : Bs := match named w with
 | some c => [c]
 | none => []
theorem str_lit (s : S) (l : Bs) : (s.toList == l) = decide (s.data.toList = l) := by
 rw [ByteArray.toList_eq, Bool.eq_iff_iff]; simp
set_option maxHeartbeats 1000000 in
theorem named_any (s : S) (w : World) : Calls Tryz.prog 163 #[.string s] w fun e w' => e = .returned (.string (bs (namedB s.data.toList))) ∧ w = w' := by
 go_enter Tryz.func163, Tryz.ntmps163
 go_wp2
 all_goals (go_ret; refine ⟨?_, rfl⟩; simp_all [namedB, named, wLt, wGt, wAmp, wQuot, wApos, str_lit, bs])
theorem encode_ok {n : Int} (h : okLetter n = true) : Utf8.encode n = bs (letterB n) := by
 simp only [okLetter, decide_eq_true_eq] at h
 have hv : Utf8.valid n = true := by simp [Utf8.valid]; omega
 unfold Utf8.encode letterB letterN
 rw [if_pos hv]
 simp only []
 split
 · rfl
 · split
   · rfl
   · split <;> rfl
set_option maxRecDepth 100000 in
set_option maxHeartbeats 1000000 in
theorem letter_ok (n : Int) (w : World) (h : okLetter n = true) : Calls Tryz.prog 168 #[.int .i64 n] w fun e w' => e = .returned (.tuple #[.string (bs (letterB n)), .bool true]) ∧ Below w.heap.size w w' := by
 have hE := Lib.hid (encode_ok h)
 have hh := h
 simp only [okLetter, decide_eq_true_eq] at hh
 have hcv : (convert 186 9 (.slice (some ⟨w.heap.size, 0, none⟩) 1 1)).run Tryz.prog (w.alloc (.cells #[.int .i32 n] 21)) = .ok (.string (bs (letterB n))) (w.alloc (.cells #[.int .i32 n] 21)) := by
  have := run_convert_runes (P := Tryz.prog) (w.alloc (.cells #[.int .i32 n] 21)) 186 9 21 ⟨w.heap.size, 0, none⟩ 1 1 [n] (by simp) Tryz.underlying186 Tryz.underlying21 Tryz.underlying9 (fun j hj => by
   match j, hj with
   | 0, _ => simp [Addr.add, go_sem])
  rw [this]
  simp [runesBytes, hE.out]
 have hw : IntKind.i32.wrap n = n := IntWalk.i32_in n (by omega)
 have hb : n = 9 ∨ n = 10 ∨ n = 13 ∨ (32 ≤ n ∧ n < 55296) ∨ (57343 < n ∧ n ≤ 1114111) := by omega
 clear hh hE
 rcases hb with rfl | rfl | rfl | ⟨h1, h2⟩ | ⟨h1, h2⟩
 all_goals
  try have e1 : (n == 9) = false := beq_eq_false_iff_ne.2 (by omega)
  try have e2 : (n == 10) = false := beq_eq_false_iff_ne.2 (by omega)
  try have e3 : (n == 13) = false := beq_eq_false_iff_ne.2 (by omega)
  go_enter Tryz.func168, Tryz.ntmps168
  go_wp2
  all_goals first | (exfalso; omega) | (go_ret2; exact ⟨rfl, (Below.refl _ _).alloc (Nat.le_refl _) _⟩)
set_option maxRecDepth 100000 in
set_option maxHeartbeats 1000000 in
theorem letter_no (n : Int) (w : World) (h : okLetter n = false) : Calls Tryz.prog 168 #[.int .i64 n] w fun e w' => e = .returned (.tuple #[.string (bs []), .bool false]) ∧ Below w.heap.size w w' := by
 simp only [okLetter, decide_eq_false_iff_not] at h
 have e1 : (n == 9) = false := beq_eq_false_iff_ne.2 (by omega)
 have e2 : (n == 10) = false := beq_eq_false_iff_ne.2 (by omega)
 have e3 : (n == 13) = false := beq_eq_false_iff_ne.2 (by omega)
 have hb : n < 32 ∨ 1114111 < n ∨ (55296 ≤ n ∧ n ≤ 57343) := by omega
 clear h
 rcases hb with h1 | h1 | ⟨h1, h2⟩
 all_goals
  go_enter Tryz.func168, Tryz.ntmps168
  go_wp2
  all_goals first | (exfalso; omega) | (go_ret2; exact ⟨rfl, Below.refl _ _⟩)

end Go.Proofs.YtbbbfjcikhpmbaaGreat

/- Walks of number and its closure; their conditions stand in the theorems. -/

namespace Go.Proofs.YtbbbfjcikhpmbaaGreat
open Go Go.RowKit

set_option maxHeartbeats 1000000 in
theorem isDig_any (c : UInt8) (hex : Bool) (b : Nat) (w : World) (hc : w.cell? ⟨b, 0, none⟩ = some (.int .i64 (baseOf hex))) :
    Calls Tryz.prog 166 #[.int .u8 c.toNat, .pointer (some ⟨b, 0, none⟩)] w fun e w' => e = .returned (.bool (isDig hex c)) ∧ w = w' := by
 go_enter Tryz.func166, Tryz.ntmps166
 go_wp2_with (go_at_call 167; refine (digit_any c hex _).mono ?_; rintro e w' ⟨rfl, rfl⟩)
 go_ret
 exact ⟨rfl, rfl⟩
set_option maxHeartbeats 1000000 in
theorem spanDig_any (s : S) (w : World) (hex : Bool) (b : Nat) (hc : w.cell? ⟨b, 0, none⟩ = some (.int .i64 (baseOf hex))) (hs : s.size ≤ 9223372036854775807) :
    Calls Tryz.prog 130 #[.string s, .func (.func 166) #[] #[.pointer (some ⟨b, 0, none⟩)]] w fun e w' => e = .returned (.int .i64 (span (isDig hex) s.data.toList)) ∧ w = w' := by
 have hsp := span_le (isDig hex) s.data.toList
 rw [size_data] at hsp
 go_enter Tryz.func130, Tryz.ntmps130
 go_wp2
 go_loop [5] (fun i => ∃ k : Nat, k ≤ s.size ∧ i = .int .i64 k ∧ Hid (span (isDig hex) s.data.toList = k + span (isDig hex) (s.data.toList.drop k))) (fun i => s.size - (intOf i).toNat)
 case atStart => exact ⟨0, Nat.zero_le _, rfl, by show _ = _; simp⟩
 case round =>
  obtain ⟨k, hk, rfl, H⟩ := hrel
  by_cases hlt : k < s.size
  · have HD := Lib.hid (drop_byte s k hlt)
    cases hp : isDig hex s[k]
    all_goals
     have HP := Lib.hid hp
     clear hp
     go_wp2_with (go_at_call 166; refine (isDig_any _ hex b _ hc).mono ?_; rintro e w' ⟨rfl, rfl⟩; rw [HP.out])
    · go_ret
      exact ⟨ret_int (by rw [H.out, HD.out]; simp [span, HP.out]), rfl⟩
    · go_round
      case rel => exact ⟨k + 1, by omega, by go_num, by show _ = _; rw [H.out, HD.out]; simp only [span, HP.out, if_true]; omega⟩
      case measure => simp [intOf]; omega
  · go_wp2
    go_ret
    exact ⟨ret_int (by rw [H.out, List.drop_of_length_le (by rw [size_data]; omega)]; simp [span]), rfl⟩
def refTuple : RefR → Value
 | .ok t n => .tuple #[.string (bs t), .int .i64 n, .int .i64 0]
 | .bad e => .tuple #[.string (bs []), .int .i64 0, .int .i64 e]
theorem numV_snoc (hex : Bool) (l : Bs) (c : UInt8) : numV hex (l ++ [c]) = numV hex l * baseOf hex + digitV c hex := by
 unfold numV; rw [List.foldl_append]; rfl
theorem numV_bd (hex : Bool) (l : Bs) (h : ∀ c ∈ l, isDig hex c = true) : 0 ≤ numV hex l ∧ numV hex l < 16 ^ l.length := by
 induction l using snoc_ind with
 | h0 => simp [numV]
 | h1 l c ih =>
  obtain ⟨h1, h2⟩ := ih fun d hd => h d (by simp [hd])
  have h3 := h c (by simp)
  have h4 := digitV_le c hex
  simp only [isDig, decide_eq_true_eq] at h3
  rw [numV_snoc, List.length_append, List.length_singleton, Int.pow_succ]
  generalize (16 : Int) ^ l.length = q at *
  cases hex <;> simp only [baseOf, if_true, Bool.false_eq_true, if_false] <;> omega
theorem numV_small (hex : Bool) (l : Bs) (h : ∀ c ∈ l, isDig hex c = true) (hl : l.length ≤ 8) : 0 ≤ numV hex l ∧ numV hex l < 4294967296 := by
 obtain ⟨h1, h2⟩ := numV_bd hex l h
 have h3 : (16 : Int) ^ l.length ≤ 4294967296 := by
  generalize l.length = n at hl
  match n, hl with
  | 0, _ => decide
  | 1, _ => decide
  | 2, _ => decide
  | 3, _ => decide
  | 4, _ => decide
  | 5, _ => decide
  | 6, _ => decide
  | 7, _ => decide
  | 8, _ => decide
 omega
theorem belowN {B : Nat} {w w' : World} (h : Below B w w') (n : Nat) : Below B w (w'.drewN n) := ⟨h.os, h.tape, h.output, h.size, fun k hk => h.block k hk⟩

end Go.Proofs.YtbbbfjcikhpmbaaGreat
