/- A map from keys to edits that the call itself makes: what lookup and mapUpdate do. -/
import Derived.Test.YtmcjpmogjmnfpaaL26
namespace Go.Proofs.Ytmcjpmogjmnfpaa
open Go Go.RowKit

structure EntE where
  key : Key
  n : Edit
  born : Nat

def EntE.ent (e : EntE) : MapEntry := { key := .agg (keyC e.key).toArray, val := .agg (editC e.n).toArray, born := e.born }
def MapIsE (w : World) (m : Nat) (L : List EntE) (c : Nat) : Prop := w.heap[m]? = some (.map (L.map EntE.ent).toArray c)
def idxE (L : List EntE) (k : Key) : Option Nat := L.findIdx? (fun e => decide (k = e.key))
def setMapE (w : World) (m : Nat) (L : List EntE) (c : Nat) : World := { w with heap := w.heap.setIfInBounds m (.map (L.map EntE.ent).toArray c) }

theorem run_equal_keyE (a b : Key) (w : World) : (Op.equal 42 (.agg (keyC a).toArray) (.agg (keyC b).toArray)).run Try.prog w = .ok (decide (a = b)) w := by
  have h := eqs_keyE
  obtain ⟨a0, a1, a2, a3⟩ := a
  obtain ⟨b0, b1, b2, b3⟩ := b
  simp only [Op.equal, Op.maxDepth, keyC]
  by_cases h0 : a0 = b0 <;> by_cases h1 : a1 = b1 <;> by_cases h2 : a2 = b2 <;> by_cases h3 : a3 = b3 <;> simp [go_sem, h, h0, h1, h2, h3, toList_iff]

theorem run_findAskingE (k : Key) (w : World) : ∀ (L : List EntE) (i : Nat), (Instr.findAsking 42 (.agg (keyC k).toArray) (L.map EntE.ent) i).run Try.prog w =
    .ok ((L.findIdx? (fun e => k = e.key)).bind fun j => (L[j]?).map fun e => (i + j, Value.agg (editC e.n).toArray)) w
  | [], i => by simp [Instr.findAsking]
  | e :: L, i => by
    simp only [List.map_cons, Instr.findAsking, Sem.run_bind, EntE.ent, run_equal_keyE, Result.andThen_ok, List.findIdx?_cons]
    by_cases h : k = e.key
    · simp [h]
    · simp only [h, decide_false, Bool.false_eq_true, if_false]
      rw [run_findAskingE k w L (i + 1)]
      congr 1
      cases L.findIdx? (fun e => decide (k = e.key)) <;> simp [Nat.add_assoc, Nat.add_comm 1]

theorem run_findKeyE (k : Key) (w : World) (L : List EntE) : (Instr.findKey 42 (.agg (keyC k).toArray) (L.map EntE.ent)).run Try.prog w =
    .ok ((L.findIdx? (fun e => k = e.key)).bind fun j => (L[j]?).map fun e => (j, Value.agg (editC e.n).toArray)) w := by
  have hu : ∃ fs, Try.prog.underlying 42 = some (.struct fs) := ⟨_, Try.underlying42⟩
  obtain ⟨fs, hu⟩ := hu
  simp only [Instr.findKey, Sem.run_bind, run_underlying hu, Result.andThen_ok]
  cases L with
  | nil => simp [Instr.findNow]
  | cons e L =>
    simp only [List.map_cons, Instr.findNow, EntE.ent, Instr.sameNow]
    exact (run_findAskingE k w (e :: L) 0).trans (by simp only [Nat.zero_add])

theorem mapTyE : ∃ fs, Try.prog.underlying 64 = some (.map 42 fs) := ⟨_, Try.underlying64⟩

theorem run_checkKey_strE (b : Bool) (n : Nat) (s : S) (w : World) : (Instr.checkKey b (n + 1) 9 (.string s)).run Try.prog w = .ok () w := by
  simp [Instr.checkKey, run_underlying Try.underlying9]

theorem run_checkKey_keyE (b : Bool) (k : Key) (w : World) : (Instr.checkKey b 10000 42 (.agg (keyC k).toArray)).run Try.prog w = .ok () w := by
  obtain ⟨a0, a1, a2, a3⟩ := k
  rw [show (10000 : Nat) = 9998 + 1 + 1 from rfl]
  generalize 9998 = n
  rw [Instr.checkKey]
  simp only [keyC, Sem.run_bind, run_underlying Try.underlying42, Result.andThen_ok]
  have hs := fun b n s w => run_checkKey_strE b n s w
  simp [go_sem, hs]


def zeroEdit : Edit := ⟨noKey, false, false, noPin, noPin⟩
def valE (L : List EntE) (k : Key) : Edit := match (idxE L k).bind (L[·]?) with | some e => e.n | none => zeroEdit
theorem run_lookup_keyE (w : World) (m : Nat) (L : List EntE) (c : Nat) (k : Key) (h : MapIsE w m L c) :
    (Instr.lookup 64 (.map (some m)) (.agg (keyC k).toArray) true).run Try.prog w = .ok (.tuple #[.agg (editC (valE L k)).toArray, .bool (idxE L k).isSome]) w := by
  simp only [Instr.lookup, Sem.run_bind, run_underlying Try.underlying64, Result.andThen_ok]
  have hg : (getObj m).run Try.prog w = .ok (.map (L.map EntE.ent).toArray c) w := by simp [getObj, Sem.run, show w.heap[m]? = _ from h]
  simp only [hg, Sem.run_bind, Result.andThen_ok, Sem.run_pure, run_checkKey_keyE, run_findKeyE]
  unfold valE idxE
  cases hj : L.findIdx? (fun e => decide (k = e.key)) with
  | none =>
    simp
    rfl
  | some j =>
    have hlt : j < L.length := by
      have := List.findIdx?_eq_some_iff_findIdx_eq.1 hj; omega
    simp [hlt]
theorem run_update_keyE (w : World) (m : Nat) (L : List EntE) (c : Nat) (k : Key) (e : Edit) (h : MapIsE w m L c) (hn : idxE L k = none) :
    (Instr.mapUpdate 64 (.map (some m)) (.agg (keyC k).toArray) (.agg (editC e).toArray)).run Try.prog w = .ok () (setMapE w m (L ++ [⟨k, e, c⟩]) (c + 1)) := by
  simp only [Instr.mapUpdate, Sem.run_bind, run_underlying Try.underlying64, Result.andThen_ok]
  have hg : (getObj m).run Try.prog w = .ok (.map (L.map EntE.ent).toArray c) w := by simp [getObj, Sem.run, show w.heap[m]? = _ from h]
  have hset : ∀ o, (setObj m o).run Try.prog w = .ok () { w with heap := w.heap.setIfInBounds m o } := fun o => by simp [setObj, Sem.run, show w.heap[m]? = _ from h]
  unfold idxE at hn
  simp only [hg, Sem.run_bind, Result.andThen_ok, run_checkKey_keyE, run_findKeyE, hn]
  simp [hset, setMapE, EntE.ent]
theorem MapIsE.lt {w : World} {m : Nat} {L : List EntE} {c : Nat} (h : MapIsE w m L c) : m < w.heap.size := (Array.getElem?_eq_some_iff.1 h).1
theorem setMapE_is {w : World} {m : Nat} {L L' : List EntE} {c c' : Nat} (h : MapIsE w m L c) : MapIsE (setMapE w m L' c') m L' c' := by
  have := h.lt
  simp [MapIsE, setMapE, this]
theorem setMapE_grown (w : World) (m : Nat) (L : List EntE) (c : Nat) : w.grownBy (setMapE w m L c) (some m) :=
  ⟨rfl, rfl, rfl, by simp [setMapE], fun k _ hne => by
    have : m ≠ k := fun e => hne (by rw [e])
    simp [setMapE, this]⟩
theorem MapIsE.grown {w w' : World} {m : Nat} {L : List EntE} {c : Nat} {row : Option Nat} (h : MapIsE w m L c) (hg : w.grownBy w' row) (hne : some m ≠ row) : MapIsE w' m L c := (hg.block m h.lt hne).trans h
theorem MapIsE.below {w w' : World} {m : Nat} {L : List EntE} {c B : Nat} (h : MapIsE w m L c) (hb : Below B w w') (hm : m < B) : MapIsE w' m L c := (hb.block m hm).trans h

end Go.Proofs.Ytmcjpmogjmnfpaa
