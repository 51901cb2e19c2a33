/- A map from keys (four texts) to counts that the call itself makes: what lookup, mapEntry, entryStore do. -/
import Derived.Test.YtnhophaeimpkkaaEq
namespace Go.Proofs.Ytnhophaeimpkkaa
open Go Go.RowKit

structure Ent where
  key : Key
  n : Int
  born : Nat

def Ent.ent (e : Ent) : MapEntry := { key := .agg (keyC e.key).toArray, val := .int .i64 e.n, born := e.born }
def MapIs (w : World) (m : Nat) (L : List Ent) (c : Nat) : Prop := w.heap[m]? = some (.map (L.map Ent.ent).toArray c)
def idx (L : List Ent) (k : Key) : Option Nat := L.findIdx? (fun e => decide (k = e.key))
def val (L : List Ent) (k : Key) : Int := match (idx L k).bind (L[·]?) with | some e => e.n | none => 0
def setMap (w : World) (m : Nat) (L : List Ent) (c : Nat) : World := { w with heap := w.heap.setIfInBounds m (.map (L.map Ent.ent).toArray c) }

theorem run_equal_key (a b : Key) (w : World) : (Op.equal 45 (.agg (keyC a).toArray) (.agg (keyC b).toArray)).run Try.prog w = .ok (decide (a = b)) w := by
  have h := eqs_key
  obtain ⟨a0, a1, a2, a3⟩ := a
  obtain ⟨b0, b1, b2, b3⟩ := b
  simp only [Op.equal, Op.maxDepth, keyC]
  by_cases h0 : a0 = b0 <;> by_cases h1 : a1 = b1 <;> by_cases h2 : a2 = b2 <;> by_cases h3 : a3 = b3 <;> simp [go_sem, h, h0, h1, h2, h3, str_beq]

theorem run_findAsking (k : Key) (w : World) : ∀ (L : List Ent) (i : Nat), (Instr.findAsking 45 (.agg (keyC k).toArray) (L.map Ent.ent) i).run Try.prog w =
    .ok ((L.findIdx? (fun e => k = e.key)).bind fun j => (L[j]?).map fun e => (i + j, Value.int .i64 e.n)) w
  | [], i => by simp [Instr.findAsking]
  | e :: L, i => by
    simp only [List.map_cons, Instr.findAsking, Sem.run_bind, Ent.ent, run_equal_key, Result.andThen_ok, List.findIdx?_cons]
    by_cases h : k = e.key
    · simp [h]
    · simp only [h, decide_false, Bool.false_eq_true, if_false]
      rw [run_findAsking k w L (i + 1)]
      congr 1
      cases L.findIdx? (fun e => decide (k = e.key)) <;> simp [Nat.add_assoc, Nat.add_comm 1]

theorem run_findKey (k : Key) (w : World) (L : List Ent) : (Instr.findKey 45 (.agg (keyC k).toArray) (L.map Ent.ent)).run Try.prog w =
    .ok ((L.findIdx? (fun e => k = e.key)).bind fun j => (L[j]?).map fun e => (j, Value.int .i64 e.n)) w := by
  have hu : ∃ fs, Try.prog.underlying 45 = some (.struct fs) := ⟨_, Try.underlying45⟩
  obtain ⟨fs, hu⟩ := hu
  simp only [Instr.findKey, Sem.run_bind, run_underlying hu, Result.andThen_ok]
  cases L with
  | nil => simp [Instr.findNow]
  | cons e L =>
    simp only [List.map_cons, Instr.findNow, Ent.ent, Instr.sameNow]
    exact (run_findAsking k w (e :: L) 0).trans (by simp only [Nat.zero_add])

theorem mapTy : ∃ fs, Try.prog.underlying 89 = some (.map 45 fs) := ⟨_, Try.underlying89⟩

theorem run_checkKey_str (b : Bool) (n : Nat) (s : S) (w : World) : (Instr.checkKey b (n + 1) 9 (.string s)).run Try.prog w = .ok () w := by
  simp [Instr.checkKey, run_underlying Try.underlying9]

theorem run_checkKey_key (b : Bool) (k : Key) (w : World) : (Instr.checkKey b 10000 45 (.agg (keyC k).toArray)).run Try.prog w = .ok () w := by
  obtain ⟨a0, a1, a2, a3⟩ := k
  rw [show (10000 : Nat) = 9998 + 1 + 1 from rfl]
  generalize 9998 = n
  rw [Instr.checkKey]
  simp only [keyC, Sem.run_bind, run_underlying Try.underlying45, Result.andThen_ok]
  have hs := fun b n s w => run_checkKey_str b n s w
  simp [go_sem, hs]

theorem zero3 (w : World) : (zeroValue 3).run Try.prog w = .ok (.int .i64 0) w := by kernel_rfl

theorem run_lookup_key (w : World) (m : Nat) (L : List Ent) (c : Nat) (k : Key) (h : MapIs w m L c) :
    (Instr.lookup 89 (.map (some m)) (.agg (keyC k).toArray) false).run Try.prog w = .ok (.int .i64 (val L k)) w := by
  simp only [Instr.lookup, Sem.run_bind, run_underlying Try.underlying89, Result.andThen_ok]
  have hg : (getObj m).run Try.prog w = .ok (.map (L.map Ent.ent).toArray c) w := by simp [getObj, Sem.run, show w.heap[m]? = _ from h]
  simp only [hg, Sem.run_bind, Result.andThen_ok, Sem.run_pure, run_checkKey_key, run_findKey]
  unfold val idx
  cases hj : L.findIdx? (fun e => decide (k = e.key)) with
  | none => simp
  | some j =>
    have hlt : j < L.length := by
      have := List.findIdx?_eq_some_iff_findIdx_eq.1 hj; omega
    simp [hlt]

/-- What mapEntry makes of the entries, of the clock, and the stamp that it hands back. -/
def insL (L : List Ent) (c : Nat) (k : Key) : List Ent := match idx L k with | some _ => L | none => L ++ [⟨k, 0, c⟩]
def insC (L : List Ent) (c : Nat) (k : Key) : Nat := match idx L k with | some _ => c | none => c + 1
def stamp (L : List Ent) (c : Nat) (k : Key) : Nat := match (idx L k).bind (L[·]?) with | some e => e.born | none => c
def setB (L : List Ent) (b : Nat) (n : Int) : List Ent := match L.findIdx? (fun e => (e.born : Int) == (b : Int)) with | some i => L.modify i (fun e => { e with n }) | none => L

theorem MapIs.lt {w : World} {m : Nat} {L : List Ent} {c : Nat} (h : MapIs w m L c) : m < w.heap.size := (Array.getElem?_eq_some_iff.1 h).1
theorem setMap_is {w : World} {m : Nat} {L L' : List Ent} {c c' : Nat} (h : MapIs w m L c) : MapIs (setMap w m L' c') m L' c' := by
  have := h.lt
  simp [MapIs, setMap, this]
theorem setMap_set (w : World) (m : Nat) (L L' : List Ent) (c c' : Nat) : setMap (setMap w m L c) m L' c' = setMap w m L' c' := by simp [setMap]
theorem setMap_grown (w : World) (m : Nat) (L : List Ent) (c : Nat) : w.grownBy (setMap w m L c) (some m) :=
  ⟨rfl, rfl, rfl, by simp [setMap], fun k _ hk => by
    have : ¬ m = k := fun e => hk (by rw [e])
    simp [setMap, this]⟩
theorem MapIs.grown {w w' : World} {m : Nat} {L : List Ent} {c : Nat} {row : Option Nat} (h : MapIs w m L c) (hg : w.grownBy w' row) (hne : some m ≠ row) : MapIs w' m L c := (hg.block m h.lt hne).trans h
theorem MapIs.below {w w' : World} {m : Nat} {L : List Ent} {c B : Nat} (h : MapIs w m L c) (hb : Below B w w') (hm : m < B) : MapIs w' m L c := (hb.block m hm).trans h

theorem sameBits_key (k : Key) : Instr.sameBits 10000 (.agg (keyC k).toArray) (.agg (keyC k).toArray) = true := by
  rw [show (10000 : Nat) = 9999 + 1 from rfl]
  simp [Instr.sameBits, keyC, beq_toListBytes]

theorem run_mapEntry_key (w : World) (m : Nat) (L : List Ent) (c : Nat) (k : Key) (h : MapIs w m L c) :
    (Instr.mapEntry 89 (.map (some m)) (.agg (keyC k).toArray)).run Try.prog w = .ok (.tuple #[.int .i64 (val L k), .int .i64 (stamp L c k)]) (setMap w m (insL L c k) (insC L c k)) := by
  simp only [Instr.mapEntry, Sem.run_bind, run_underlying Try.underlying89, Result.andThen_ok]
  have hg : (getObj m).run Try.prog w = .ok (.map (L.map Ent.ent).toArray c) w := by simp [getObj, Sem.run, show w.heap[m]? = _ from h]
  simp only [hg, Sem.run_bind, Result.andThen_ok, run_checkKey_key, run_findKey]
  unfold val stamp insL insC idx
  have hset : ∀ o, (setObj m o).run Try.prog w = .ok () { w with heap := w.heap.setIfInBounds m o } := fun o => by simp [setObj, Sem.run, show w.heap[m]? = _ from h]
  cases hj : L.findIdx? (fun e => decide (k = e.key)) with
  | none =>
    simp [hset, setMap, goInt, Ent.ent]
  | some j =>
    obtain ⟨hlt, hjk, -⟩ := List.findIdx?_eq_some_iff_getElem.1 hj
    have hk : L[j].key = k := by simpa using (of_decide_eq_true hjk).symm
    have hmod : (List.map Ent.ent L).modify j (fun e => { e with key := .agg (keyC k).toArray }) = List.map Ent.ent L := by
      apply List.ext_getElem?
      intro i
      rw [List.getElem?_modify]
      split
      · rename_i he
        subst he
        simp [hlt, Ent.ent, hk]
      · simp
    simp [hlt, hset, setMap, goInt, Instr.keyThatStays, Ent.ent, hk, sameBits_key, hmod]

theorem run_entryStore_key (w : World) (m : Nat) (L : List Ent) (c b : Nat) (v : Int) (h : MapIs w m L c) (hb : ∃ e ∈ L, e.born = b) :
    (Instr.entryStore 89 (.map (some m)) (.int .i64 b) (.int .i64 v)).run Try.prog w = .ok () (setMap w m (setB L b v) c) := by
  have hg : (getObj m).run Try.prog w = .ok (.map (L.map Ent.ent).toArray c) w := by simp [getObj, Sem.run, show w.heap[m]? = _ from h]
  have hset : ∀ o, (setObj m o).run Try.prog w = .ok () { w with heap := w.heap.setIfInBounds m o } := fun o => by simp [setObj, Sem.run, show w.heap[m]? = _ from h]
  have hf : (L.map Ent.ent).findIdx? (fun e => (e.born : Int) == (b : Int)) = L.findIdx? (fun e => (e.born : Int) == (b : Int)) := by
    rw [List.findIdx?_map]; rfl
  obtain ⟨e, he, hbe⟩ := hb
  cases hj : L.findIdx? (fun e => (e.born : Int) == (b : Int)) with
  | none =>
    have := List.findIdx?_eq_none_iff.1 hj e he
    simp [hbe] at this
  | some j =>
    have hmod : (List.map Ent.ent L).modify j (fun e => { e with val := .int .i64 v }) = List.map Ent.ent (L.modify j fun e => { e with n := v }) := by
      apply List.ext_getElem?
      intro i
      rw [List.getElem?_modify, List.getElem?_map, List.getElem?_map, List.getElem?_modify]
      split
      · cases L[i]? <;> rfl
      · cases L[i]? <;> rfl
    simp only [Instr.entryStore, Sem.run_bind, hg, Result.andThen_ok, asInt, asIntOf, Sem.run_pure]
    simp [hf, hj, hset, setMap, setB, hmod]

end Go.Proofs.Ytnhophaeimpkkaa
