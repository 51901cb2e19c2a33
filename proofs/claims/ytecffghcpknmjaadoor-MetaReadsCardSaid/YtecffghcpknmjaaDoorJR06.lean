/- pom.Read where a part is wrong: what its deferred closure makes of it; the parent's three words; the conditions stand in the theorems. -/
import Derived.Test.YtecffghcpknmjaaDoorJR05
import Derived.Test.YtecffghcpknmjaaDoorL0
import Derived.Test.YtecffghcpknmjaaDoorQB
import Derived.Test.YtecffghcpknmjaaDoorSB
import Derived.KernelRfl
import Derived.Laws.StructEq
import Derived.MapKept
import Derived.WalkKit

namespace Go.Proofs.YtecffghcpknmjaaDoor
open Go Go.RowKit

/-- A project of the call's own. -/
structure PomOwn (base : Nat) (w : World) (p : Pom) (pv mv dv : Value) : Prop where
  props : Owns base 189 2 prpC w pv p.props
  managed : ∃ L, DepsOwn base w mv p.managed L
  deps : ∃ L, DepsOwn base w dv p.deps L
theorem PomOwn.below {base : Nat} {w w' : World} {p : Pom} {pv mv dv : Value} (h : PomOwn base w p pv mv dv) (hb : Below w.heap.size w w') : PomOwn base w' p pv mv dv :=
  ⟨h.props.below hb, let ⟨L, h1⟩ := h.managed; ⟨L, h1.below hb⟩, let ⟨L, h1⟩ := h.deps; ⟨L, h1.below hb⟩⟩
theorem PomOwn.keptR {base r : Nat} {w w' : World} {p : Pom} {pv mv dv : Value} (h : PomOwn base w p pv mv dv) (hg : w.grownBy w' (some r)) (hr : r < base) : PomOwn base w' p pv mv dv :=
  ⟨h.props.keptR hg hr, let ⟨L, h1⟩ := h.managed; ⟨L, h1.keptR hg hr⟩, let ⟨L, h1⟩ := h.deps; ⟨L, h1.keptR hg hr⟩⟩
theorem PomOwn.base_mono {base B : Nat} {w : World} {p : Pom} {pv mv dv : Value} (h : PomOwn base w p pv mv dv) (hb : B ≤ base) : PomOwn B w p pv mv dv :=
  ⟨h.props.base_mono hb, let ⟨L, h1⟩ := h.managed; ⟨L, h1.base_mono hb⟩, let ⟨L, h1⟩ := h.deps; ⟨L, h1.base_mono hb⟩⟩
theorem PomOwn.of {base : Nat} {w : World} {p : Pom} {pv mv dv : Value} (h : PomOwn base w p pv mv dv) : PomOf w (.agg (pomC p pv mv dv).toArray) p pv mv dv :=
  ⟨rfl, h.props.slice prpC_len2, let ⟨_, h1⟩ := h.managed; h1.of, let ⟨_, h1⟩ := h.deps; h1.of⟩

end Go.Proofs.YtecffghcpknmjaaDoor

/- A store in memory: its four cells, its two maps, its projects, of each id the versions; what stays when other blocks turn; no program in sight but for types' numbers. -/

namespace Go.Proofs.YtecffghcpknmjaaDoor
open Go Go.RowKit

structure Prob where
  err : Int
  gav : Gav
  off : Int
  line : Int
  col : Int
  whr : S
def probC (x : Prob) : List Value := [.int .i64 x.err, .string x.gav.group, .string x.gav.artifact, .string x.gav.version, .int .i64 x.off, .int .i64 x.line, .int .i64 x.col, .string x.whr]
def noS : S := ⟨#[]⟩
def gavZ : Gav := ⟨noS, noS, noS⟩
def probZ : Prob := ⟨0, gavZ, 0, 0, 0, noS⟩
def pomZ : Pom := ⟨false, gavZ, noS, noS, noS, noS, [], [], []⟩
structure SEnt where
  gav : Gav
  text : S
  done : Bool
  pom : Pom
  prob : Prob
def freshE (g : Gav) (s : S) : SEnt := ⟨g, s, false, pomZ, probZ⟩
def kGav (g : Gav) : Value := .agg (gavC g).toArray
def kId (x : Id) : Value := .agg (idC x).toArray
def idOf (g : Gav) : Id := ⟨g.group, g.artifact⟩
def ptr (b : Nat) : Value := .pointer (some ⟨b, 0, none⟩)
theorem Owns.moved {α : Type} {base : Nat} {E : TypeId} {n : Nat} {C : α → List Value} {w w' : World} {v : Value} {l : List α} (h : Owns base E n C w v l) (hk : ∀ k, base ≤ k → k < w.heap.size → w'.heap[k]? = w.heap[k]?) : Owns base E n C w' v l := by
  have hlt := h.lt
  obtain ⟨h1, h2⟩ := h
  refine ⟨h1, ?_⟩
  rcases h2 with h2 | ⟨g, cap, cur, rfl, hg, hc, h3⟩
  · exact .inl h2
  · exact .inr ⟨g, cap, cur, rfl, hg, (hk g hg (hlt g rfl).2).trans hc, h3⟩
theorem DepsOwn.moved {base : Nat} {w w' : World} {v : Value} {ds : List Dep} {L : List (Dep × Value)} (h : DepsOwn base w v ds L) (hk : ∀ k, base ≤ k → k < w.heap.size → w'.heap[k]? = w.heap[k]?) : DepsOwn base w' v ds L :=
  ⟨h.row.moved hk, h.are, fun p hp => (h.excl p hp).moved hk⟩
theorem PomOwn.moved {base : Nat} {w w' : World} {p : Pom} {pv mv dv : Value} (h : PomOwn base w p pv mv dv) (hk : ∀ k, base ≤ k → k < w.heap.size → w'.heap[k]? = w.heap[k]?) : PomOwn base w' p pv mv dv :=
  ⟨h.props.moved hk, let ⟨L, h1⟩ := h.managed; ⟨L, h1.moved hk⟩, let ⟨L, h1⟩ := h.deps; ⟨L, h1.moved hk⟩⟩
/-- A project that was read lies in blocks that the store does not write again. -/
def PomKept (F : Nat → Prop) (w : World) (p : Pom) (pv mv dv : Value) : Prop := ∃ w0 base, PomOwn base w0 p pv mv dv ∧ w0.heap.size ≤ w.heap.size ∧ ∀ k, base ≤ k → k < w0.heap.size → ¬ F k ∧ w.heap[k]? = w0.heap[k]?
theorem PomKept.own {F : Nat → Prop} {w : World} {p : Pom} {pv mv dv : Value} (h : PomKept F w p pv mv dv) : ∃ base, PomOwn base w p pv mv dv := by
  obtain ⟨w0, base, h1, h2, h3⟩ := h
  exact ⟨base, h1.moved fun k a b => (h3 k a b).2⟩
theorem PomKept.only {F G : Nat → Prop} {w w' : World} {p : Pom} {pv mv dv : Value} (h : PomKept F w p pv mv dv) (ho : Only F w w') (hG : ∀ k, k < w.heap.size → G k → F k) : PomKept G w' p pv mv dv := by
  obtain ⟨w0, base, h1, h2, h3⟩ := h
  refine ⟨w0, base, h1, Nat.le_trans h2 ho.size, fun k a b => ?_⟩
  have hk : k < w.heap.size := by omega
  exact ⟨fun e => (h3 k a b).1 (hG k hk e), (ho.block k hk (h3 k a b).1).trans (h3 k a b).2⟩
theorem PomKept.no (F : Nat → Prop) (w : World) : PomKept F w pomZ (.slice none 0 0) (.slice none 0 0) (.slice none 0 0) :=
  ⟨w, w.heap.size, ⟨Owns.nil, ⟨[], DepsOwn.nil _ _⟩, ⟨[], DepsOwn.nil _ _⟩⟩, Nat.le_refl _, fun k a b => by omega⟩
theorem PomKept.new {F : Nat → Prop} {w' : World} {p : Pom} {pv mv dv : Value} {base : Nat} (h : PomOwn base w' p pv mv dv) (hF : ∀ k, F k → k < base) : PomKept F w' p pv mv dv :=
  ⟨w', base, h, Nat.le_refl _, fun k a b => ⟨fun e => by have := hF k e; omega, rfl⟩⟩
/-- The cells of a project in a store. -/
def entC (e : SEnt) (pv mv dv : Value) : List Value := [.string e.text, .int .u32 (if e.done then 1 else 0), .int .i32 0, .int .u32 0] ++ pomC e.pom pv mv dv ++ probC e.prob
def EntryAt (F : Nat → Prop) (w : World) (b : Nat) (e : SEnt) : Prop := ∃ pv mv dv, Box w b (entC e pv mv dv) ∧ PomKept F w e.pom pv mv dv
theorem EntryAt.only {F G : Nat → Prop} {w w' : World} {b : Nat} {e : SEnt} (h : EntryAt F w b e) (ho : Only F w w') (hG : ∀ k, k < w.heap.size → G k → F k) (hb : w'.heap[b]? = w.heap[b]?) : EntryAt G w' b e := by
  obtain ⟨pv, mv, dv, h1, h2⟩ := h
  refine ⟨pv, mv, dv, ⟨Nat.lt_of_lt_of_le h1.lt ho.size, fun j u hu => (World.cell?_of_block hb).trans (h1.cell j u hu), fun j => (World.frozen?_of_block hb).trans (h1.free j)⟩, h2.only ho hG⟩
/-- Of an id the versions, as they were put. -/
def versOf (es : List (SEnt × Nat)) (x : Id) : List S := ((es.map fun e => e.1.gav).filter fun g => decide (idOf g = x)).map fun g => g.version
structure StoreIn (F : Nat → Prop) (w : World) (b me mv : Nat) (L : List (MEnt Gav)) (cl : Nat) (V : List (MEnt Id)) (cv : Nat) (es : List (SEnt × Nat)) (r a : Int) : Prop where
  box : Box w b [.map (some me), .map (some mv), .int .i64 r, .int .i64 a]
  ents : MMap kGav w me L cl
  vers : MMap kId w mv V cv
  same : L.map (fun e => (e.key, e.val)) = es.map fun e => (e.1.gav, ptr e.2)
  ent : ∀ e ∈ es, EntryAt F w e.2 e.1
  row : ∀ x, (mGet V x = none ∧ versOf es x = []) ∨ ∃ v, mGet V x = some v ∧ Owns 0 9 1 strC w v (versOf es x)
  rows : ∀ x v k, mGet V x = some v → v.ownBlock = some k → F k ∧ k ≠ b ∧ k ≠ me ∧ k ≠ mv ∧ ∀ e ∈ es, e.2 ≠ k
  apart : ∀ x y v u k, mGet V x = some v → mGet V y = some u → v.ownBlock = some k → u.ownBlock = some k → x = y
  own : F b ∧ F me ∧ F mv ∧ ∀ e ∈ es, F e.2
  lt : ∀ k, F k → k < w.heap.size
  ne : b ≠ me ∧ b ≠ mv ∧ me ≠ mv ∧ ∀ e ∈ es, e.2 ≠ b ∧ e.2 ≠ me ∧ e.2 ≠ mv
  each : (es.map (·.2)).Nodup
  once : (es.map fun e => e.1.gav).Nodup
def StoreAt (F : Nat → Prop) (w : World) (b : Nat) (es : List (SEnt × Nat)) (r a : Int) : Prop := ∃ me mv L cl V cv, StoreIn F w b me mv L cl V cv es r a
theorem StoreIn.only {F G : Nat → Prop} {w w' : World} {b me mv : Nat} {L : List (MEnt Gav)} {cl : Nat} {V : List (MEnt Id)} {cv : Nat} {es : List (SEnt × Nat)} {r a : Int} (h : StoreIn F w b me mv L cl V cv es r a) (ho : Only G w w') (hG : ∀ k, F k → ¬ G k)
    (hP : ∀ e ∈ es, EntryAt F w' e.2 e.1) : StoreIn F w' b me mv L cl V cv es r a :=
  ⟨h.box.only ho (hG _ h.own.1), h.ents.only ho (hG _ h.own.2.1), h.vers.only ho (hG _ h.own.2.2.1), h.same, hP,
    fun x => (h.row x).imp id fun ⟨v, h1, h2⟩ => ⟨v, h1, h2.only ho fun k hk => hG _ (h.rows x v k h1 hk).1⟩, h.rows, h.apart, h.own, fun k hk => Nat.lt_of_lt_of_le (h.lt k hk) ho.size, h.ne, h.each, h.once⟩
/-- What only makes memory changes no store. -/
theorem StoreAt.below {F : Nat → Prop} {w w' : World} {b : Nat} {es : List (SEnt × Nat)} {r a : Int} (h : StoreAt F w b es r a) (hb : Below w.heap.size w w') : StoreAt F w' b es r a := by
  obtain ⟨me, mv, L, cl, V, cv, h⟩ := h
  exact ⟨me, mv, L, cl, V, cv, h.only (Only.of (F := fun _ => False) hb) (fun _ _ => id) fun e he => (h.ent e he).only (Only.of hb) (fun _ _ => id) (hb.block _ (h.lt _ (h.own.2.2.2 e he)))⟩
theorem StoreIn.get {F : Nat → Prop} {w : World} {b me mv : Nat} {L : List (MEnt Gav)} {cl : Nat} {V : List (MEnt Id)} {cv : Nat} {es : List (SEnt × Nat)} {r a : Int} (h : StoreIn F w b me mv L cl V cv es r a) (g : Gav) :
    mGet L g = (es.find? fun e => decide (g = e.1.gav)).map fun e => ptr e.2 := by
  have hs := h.same
  clear h
  induction L generalizing es with
  | nil =>
    cases es with
    | nil => rfl
    | cons e es => simp at hs
  | cons m L ih =>
    cases es with
    | nil => simp at hs
    | cons e es =>
      simp only [List.map_cons, List.cons.injEq, Prod.mk.injEq] at hs
      rw [mGet_cons, List.find?_cons, hs.1.1, hs.1.2]
      by_cases hg : g = e.1.gav
      · simp [hg]
      · simp [hg, ih hs.2]
def hasG (es : List (SEnt × Nat)) (g : Gav) : Bool := (es.find? fun e => decide (g = e.1.gav)).isSome
theorem StoreIn.len {F : Nat → Prop} {w : World} {b me mv : Nat} {L : List (MEnt Gav)} {cl : Nat} {V : List (MEnt Id)} {cv : Nat} {es : List (SEnt × Nat)} {r a : Int} (h : StoreIn F w b me mv L cl V cv es r a) : L.length = es.length := by
  have := congrArg List.length h.same
  simpa using this
def nilS : Value := .slice none 0 0
def rowV (V : List (MEnt Id)) (x : Id) : Value := (mGet V x).getD nilS
theorem StoreIn.rowV_owns {F : Nat → Prop} {w : World} {b me mv : Nat} {L : List (MEnt Gav)} {cl : Nat} {V : List (MEnt Id)} {cv : Nat} {es : List (SEnt × Nat)} {r a : Int} (h : StoreIn F w b me mv L cl V cv es r a) (x : Id) : Owns 0 9 1 strC w (rowV V x) (versOf es x) := by
  unfold rowV
  rcases h.row x with ⟨h1, h2⟩ | ⟨v, h1, h2⟩
  · rw [h1, h2]; exact Owns.nil
  · rw [h1]; exact h2
theorem StoreIn.rowV_at {F : Nat → Prop} {w : World} {b me mv : Nat} {L : List (MEnt Gav)} {cl : Nat} {V : List (MEnt Id)} {cv : Nat} {es : List (SEnt × Nat)} {r a : Int} (h : StoreIn F w b me mv L cl V cv es r a) (x : Id) {k : Nat} (hk : (rowV V x).ownBlock = some k) :
    F k ∧ k ≠ b ∧ k ≠ me ∧ k ≠ mv ∧ ∀ e ∈ es, e.2 ≠ k := by
  unfold rowV at hk
  cases h1 : mGet V x with
  | none => rw [h1] at hk; cases hk
  | some v => rw [h1] at hk; exact h.rows x v k h1 hk
theorem versOf_snoc (es : List (SEnt × Nat)) (e : SEnt × Nat) (x : Id) : versOf (es ++ [e]) x = versOf es x ++ if idOf e.1.gav = x then [e.1.gav.version] else [] := by
  unfold versOf
  rw [List.map_append, List.filter_append, List.map_append]
  by_cases h : idOf e.1.gav = x <;> simp [h]
theorem hasG_none {es : List (SEnt × Nat)} {g : Gav} (h : hasG es g = false) : ∀ e ∈ es, e.1.gav ≠ g := by
  unfold hasG at h
  rw [Option.isSome_eq_false_iff, Option.isNone_iff_eq_none, List.find?_eq_none] at h
  intro e he h2
  exact h e he (by simp [h2])
/-- A project more. -/
theorem StoreIn.put {F : Nat → Prop} {w w1 w2 w3 w4 : World} {b me mv eb : Nat} {L : List (MEnt Gav)} {cl : Nat} {V : List (MEnt Id)} {cv : Nat} {es : List (SEnt × Nat)} {r a : Int} {g : Gav} {s : S} {v' : Value} (h : StoreIn F w b me mv L cl V cv es r a) (hn : hasG es g = false)
    (h1 : Below w.heap.size w w1) (hbx : Box w1 eb (entC (freshE g s) nilS nilS nilS)) (heb : w.heap.size ≤ eb) (h2 : Below w1.heap.size (mSet kGav w1 me (mPut L g (ptr eb) cl) (mCnt L g cl)) w2)
    (h3 : w2.grownBy w3 (rowV V (idOf g)).ownBlock) (ho : Owns 0 9 1 strC w3 v' (versOf es (idOf g) ++ [g.version])) (hv' : v'.ownBlock = (rowV V (idOf g)).ownBlock ∨ ∃ k, w1.heap.size ≤ k ∧ v'.ownBlock = some k)
    (h4 : w4 = mSet kId w3 mv (mPut V (idOf g) v' cv) (mCnt V (idOf g) cv)) :
    (∃ F', StoreIn F' w4 b me mv (mPut L g (ptr eb) cl) (mCnt L g cl) (mPut V (idOf g) v' cv) (mCnt V (idOf g) cv) (es ++ [(freshE g s, eb)]) r a ∧ (∀ k, k < w.heap.size → F' k → F k)) ∧ Only F w w4 := by
  have hV := fun k => h.rowV_at (idOf g) (k := k)
  have s1 := h1.size
  have s2 : w1.heap.size ≤ w2.heap.size := by have := h2.size; simpa [mSet] using this
  have s3 := h3.size
  have s4 : w4.heap.size = w3.heap.size := by rw [h4]; simp [mSet]
  have lb := h.lt _ h.own.1
  have lme := h.lt _ h.own.2.1
  have lmv := h.lt _ h.own.2.2.1
  have le_ : ∀ e ∈ es, e.2 < w.heap.size := fun e he => h.lt _ (h.own.2.2.2 e he)
  have lV : ∀ k, (rowV V (idOf g)).ownBlock = some k → k < w.heap.size := fun k hk => h.lt _ (hV k hk).1
  have leb := hbx.lt
  have o12 : Only (fun k => k = me) w1 w2 := (Only.grown (mSet_grown w1 me (mPut L g (ptr eb) cl) (mCnt L g cl)) (by rintro k ⟨⟩; rfl)).trans (Only.of (F := fun k => k = me) (by have := h2; simpa [mSet] using this)) (fun _ _ => id)
  have o23 : Only (fun k => (rowV V (idOf g)).ownBlock = some k) w2 w3 := Only.grown h3 fun k hk => hk
  have o34 : Only (fun k => k = mv) w3 w4 := by rw [h4]; exact Only.grown (mSet_grown w3 mv _ _) (by rintro k ⟨⟩; rfl)
  have o24 : Only (fun k => (rowV V (idOf g)).ownBlock = some k ∨ k = mv) w2 w4 := (o23.mono fun _ _ => Or.inl).trans o34 fun _ _ => Or.inr
  have o14 : Only (fun k => k = me ∨ (rowV V (idOf g)).ownBlock = some k ∨ k = mv) w1 w4 := (o12.mono fun _ _ => Or.inl).trans o24 fun _ _ => Or.inr
  have o04 : Only (fun k => k = me ∨ (rowV V (idOf g)).ownBlock = some k ∨ k = mv) w w4 := (Only.of h1).trans o14 fun _ _ => id
  have o04F : Only F w w4 := o04.mono fun k _ hG => by
    rcases hG with rfl | e | rfl
    · exact h.own.2.1
    · exact (hV k e).1
    · exact h.own.2.2.1
  have o03 : Only (fun k => k = me ∨ (rowV V (idOf g)).ownBlock = some k) w w3 := ((Only.of (F := fun k => k = me) h1).trans o12 fun _ _ => id).mono (fun _ _ => Or.inl) |>.trans o23 fun _ _ => Or.inr
  have hmi : mIdx L g = none := by
    rw [mIdx_none, h.get, List.find?_eq_none.2 (fun e he => by have := hasG_none hn e he; simp [Ne.symm this])]
    rfl
  have hvk : ∀ k, v'.ownBlock = some k → (F k ∧ k < w.heap.size ∧ k ≠ b ∧ k ≠ me ∧ k ≠ mv ∧ ∀ e ∈ es, e.2 ≠ k) ∨ (w1.heap.size ≤ k) := fun k hk => by
    rcases hv' with e | ⟨k', hle, e⟩
    · rw [e] at hk
      exact .inl ⟨(hV k hk).1, lV k hk, (hV k hk).2⟩
    · rw [e] at hk; cases hk; exact .inr hle
  have lv' : ∀ k, v'.ownBlock = some k → k < w3.heap.size := fun k hk => (ho.lt k hk).2
  refine ⟨⟨fun k => F k ∨ (w.heap.size ≤ k ∧ k < w4.heap.size), ?_, fun k hk hF => hF.resolve_right (by omega)⟩, o04F⟩
  · refine ⟨h.box.only o04 ?_, ?_, ?_, ?_, ?_, ?_, ?_, ?_, ?_, ?_, ?_, ?_, ?_⟩
    · rintro (e | e | e)
      · exact h.ne.1 e
      · exact (hV b e).2.1 rfl
      · exact h.ne.2.1 e
    · have e1 : MMap kGav w1 me L cl := h.ents.below h1 lme
      have e2 : MMap kGav w2 me (mPut L g (ptr eb) cl) (mCnt L g cl) := (mSet_is e1).below h2 (by omega)
      refine e2.only o24 ?_
      rintro (e | e)
      · exact (hV me e).2.2.1 rfl
      · exact h.ne.2.2.1 e
    · rw [h4]
      refine mSet_is (L := V) (c := cv) (h.vers.only o03 ?_)
      rintro (e | e)
      · exact h.ne.2.2.1 e.symm
      · exact (hV mv e).2.2.2.1 rfl
    · have : mPut L g (ptr eb) cl = L ++ [⟨g, ptr eb, cl⟩] := by simp [mPut, hmi]
      rw [this, List.map_append, List.map_append, h.same]
      rfl
    · intro e he
      rcases List.mem_append.1 he with he | he
      · refine (h.ent e he).only o04F (fun k hk hF => hF.resolve_right (by omega)) (o04.block _ (le_ e he) ?_)
        rintro (e2 | e2 | e2)
        · exact (h.ne.2.2.2 e he).2.1 e2
        · exact (hV _ e2).2.2.2.2 e he rfl
        · exact (h.ne.2.2.2 e he).2.2 e2
      · obtain rfl := List.mem_singleton.1 he
        refine ⟨nilS, nilS, nilS, hbx.only o14 ?_, PomKept.no _ _⟩
        rintro (e2 | e2 | e2)
        · subst e2; omega
        · have := lV _ e2; omega
        · subst e2; omega
    · intro x
      rw [mGet_put, versOf_snoc]
      by_cases hx : x = idOf g
      · subst hx
        refine .inr ⟨v', by simp, ?_⟩
        rw [if_pos (show idOf (freshE g s, eb).1.gav = idOf g from rfl)]
        refine ho.only o34 fun k hk e => ?_
        rcases hvk k hk with hh | hh
        · exact hh.2.2.2.2.1 e
        · subst e; omega
      · rw [if_neg hx, if_neg (fun e => hx e.symm), List.append_nil]
        refine (h.row x).imp id fun ⟨v, e1, e2⟩ => ⟨v, e1, e2.only o04 fun k hk => ?_⟩
        have hr := h.rows x v k e1 hk
        rintro (e3 | e3 | e3)
        · exact hr.2.2.1 e3
        · cases hm : mGet V (idOf g) with
          | none => simp [rowV, hm, nilS, Value.ownBlock] at e3
          | some u =>
            simp only [rowV, hm, Option.getD_some] at e3
            exact hx (h.apart x (idOf g) v u k e1 hm hk e3)
        · exact hr.2.2.2.1 e3
    · intro x v k hv hk
      rw [mGet_put] at hv
      by_cases hx : x = idOf g
      · rw [if_pos hx] at hv
        cases hv
        rcases hvk k hk with ⟨hF, hlt, e1, e2, e3, e4⟩ | hh
        · refine ⟨.inl hF, e1, e2, e3, fun e he => ?_⟩
          rcases List.mem_append.1 he with he | he
          · exact e4 e he
          · obtain rfl := List.mem_singleton.1 he
            show eb ≠ k
            omega
        · have := lv' k hk
          refine ⟨.inr ⟨by omega, by omega⟩, by omega, by omega, by omega, fun e he => ?_⟩
          rcases List.mem_append.1 he with he | he
          · have := le_ e he; omega
          · obtain rfl := List.mem_singleton.1 he
            show eb ≠ k
            omega
      · rw [if_neg hx] at hv
        obtain ⟨hF, e1, e2, e3, e4⟩ := h.rows x v k hv hk
        have hlt := h.lt k hF
        refine ⟨.inl hF, e1, e2, e3, fun e he => ?_⟩
        rcases List.mem_append.1 he with he | he
        · exact e4 e he
        · obtain rfl := List.mem_singleton.1 he
          show eb ≠ k
          omega
    · have hold : ∀ y u k, mGet V y = some u → u.ownBlock = some k → v'.ownBlock = some k → y = idOf g := fun y u k hu hk hk' => by
        rcases hv' with e | ⟨k', hle, e⟩
        · rw [e] at hk'
          cases hm : mGet V (idOf g) with
          | none => simp [rowV, hm, nilS, Value.ownBlock] at hk'
          | some z =>
            simp only [rowV, hm, Option.getD_some] at hk'
            exact h.apart y (idOf g) u z k hu hm hk hk'
        · rw [e] at hk'; cases hk'
          have := h.lt k (h.rows y u k hu hk).1
          omega
      intro x y v u k hv hu hk hk'
      rw [mGet_put] at hv hu
      by_cases hx : x = idOf g
      · rw [if_pos hx] at hv
        cases hv
        by_cases hy : y = idOf g
        · rw [hx, hy]
        · rw [if_neg hy] at hu
          exact absurd (hold y u k hu hk' hk) hy
      · rw [if_neg hx] at hv
        by_cases hy : y = idOf g
        · rw [if_pos hy] at hu
          cases hu
          exact absurd (hold x v k hv hk hk') hx
        · rw [if_neg hy] at hu
          exact h.apart x y v u k hv hu hk hk'
    · refine ⟨.inl h.own.1, .inl h.own.2.1, .inl h.own.2.2.1, fun e he => ?_⟩
      rcases List.mem_append.1 he with he | he
      · exact .inl (h.own.2.2.2 e he)
      · obtain rfl := List.mem_singleton.1 he
        refine .inr ⟨heb, ?_⟩
        show eb < _
        omega
    · rintro k (hF | hF)
      · have := h.lt k hF; omega
      · exact hF.2
    · refine ⟨h.ne.1, h.ne.2.1, h.ne.2.2.1, fun e he => ?_⟩
      rcases List.mem_append.1 he with he | he
      · exact h.ne.2.2.2 e he
      · obtain rfl := List.mem_singleton.1 he
        refine ⟨?_, ?_, ?_⟩ <;> show eb ≠ _ <;> omega
    · rw [List.map_append, List.nodup_append]
      refine ⟨h.each, by simp, fun x hx y hy => ?_⟩
      obtain ⟨e, he, rfl⟩ := List.mem_map.1 hx
      simp at hy; subst hy
      have := le_ e he
      omega
    · rw [List.map_append, List.nodup_append]
      refine ⟨h.once, by simp, fun x hx y hy => ?_⟩
      obtain ⟨e, he, rfl⟩ := List.mem_map.1 hx
      simp at hy; subst hy
      exact hasG_none hn e he
/-- Projects that nobody asked for. -/
def FreshAt (w : World) (es : List (SEnt × Nat)) : Prop := ∀ e ∈ es, Box w e.2 (entC e.1 nilS nilS nilS) ∧ e.1.pom = pomZ
theorem FreshAt.below {w w' : World} {es : List (SEnt × Nat)} (h : FreshAt w es) (hb : Below w.heap.size w w') : FreshAt w' es := fun e he => ⟨(h e he).1.below hb (h e he).1.lt, (h e he).2⟩
theorem FreshAt.only {F : Nat → Prop} {w w' : World} {es : List (SEnt × Nat)} (h : FreshAt w es) (ho : Only F w w') (hF : ∀ e ∈ es, ¬ F e.2) : FreshAt w' es := fun e he => ⟨(h e he).1.only ho (hF e he), (h e he).2⟩
theorem FreshAt.ent {w : World} {es : List (SEnt × Nat)} (h : FreshAt w es) (F : Nat → Prop) : ∀ e ∈ es, EntryAt F w e.2 e.1 := fun e he => ⟨nilS, nilS, nilS, (h e he).1, by rw [(h e he).2]; exact PomKept.no _ _⟩
theorem StoreIn.put_fresh {F : Nat → Prop} {w w1 w2 w3 w4 : World} {b me mv eb : Nat} {L : List (MEnt Gav)} {cl : Nat} {V : List (MEnt Id)} {cv : Nat} {es : List (SEnt × Nat)} {r a : Int} {g : Gav} {s : S} {v' : Value} (h : StoreIn F w b me mv L cl V cv es r a)
    (h1 : Below w.heap.size w w1) (hbx : Box w1 eb (entC (freshE g s) nilS nilS nilS)) (heb : w.heap.size ≤ eb) (h2 : Below w1.heap.size (mSet kGav w1 me (mPut L g (ptr eb) cl) (mCnt L g cl)) w2)
    (h3 : w2.grownBy w3 (rowV V (idOf g)).ownBlock) (h4 : w4 = mSet kId w3 mv (mPut V (idOf g) v' cv) (mCnt V (idOf g) cv)) (hf : FreshAt w es) : FreshAt w4 (es ++ [(freshE g s, eb)]) := by
  have hV := fun k => h.rowV_at (idOf g) (k := k)
  have lme := h.lt _ h.own.2.1
  have lmv := h.lt _ h.own.2.2.1
  have lV : ∀ k, (rowV V (idOf g)).ownBlock = some k → k < w.heap.size := fun k hk => h.lt _ (hV k hk).1
  have o12 : Only (fun k => k = me) w1 w2 := (Only.grown (mSet_grown w1 me (mPut L g (ptr eb) cl) (mCnt L g cl)) (by rintro k ⟨⟩; rfl)).trans (Only.of (F := fun k => k = me) (by have := h2; simpa [mSet] using this)) (fun _ _ => id)
  have o23 : Only (fun k => (rowV V (idOf g)).ownBlock = some k) w2 w3 := Only.grown h3 fun k hk => hk
  have o34 : Only (fun k => k = mv) w3 w4 := by rw [h4]; exact Only.grown (mSet_grown w3 mv _ _) (by rintro k ⟨⟩; rfl)
  have o24 : Only (fun k => (rowV V (idOf g)).ownBlock = some k ∨ k = mv) w2 w4 := (o23.mono fun _ _ => Or.inl).trans o34 fun _ _ => Or.inr
  have o14 : Only (fun k => k = me ∨ (rowV V (idOf g)).ownBlock = some k ∨ k = mv) w1 w4 := (o12.mono fun _ _ => Or.inl).trans o24 fun _ _ => Or.inr
  have o04 : Only (fun k => k = me ∨ (rowV V (idOf g)).ownBlock = some k ∨ k = mv) w w4 := (Only.of h1).trans o14 fun _ _ => id
  intro e he
  rcases List.mem_append.1 he with he | he
  · refine (hf.only o04 fun e he => ?_) e he
    rintro (e2 | e2 | e2)
    · exact (h.ne.2.2.2 e he).2.1 e2
    · exact (hV _ e2).2.2.2.2 e he rfl
    · exact (h.ne.2.2.2 e he).2.2 e2
  · obtain rfl := List.mem_singleton.1 he
    refine ⟨hbx.only o14 ?_, rfl⟩
    rintro (e2 | e2 | e2)
    · subst e2; omega
    · have := lV _ e2; omega
    · subst e2; omega

end Go.Proofs.YtecffghcpknmjaaDoor

/- What store.New, Has, Len, id do; keys that are structs; the conditions stand in the theorems. -/
namespace Go.Proofs.YtecffghcpknmjaaDoor
open Go Go.RowKit

theorem beq_str (a b : S) : (a.toList == b.toList) = decide (a = b) := by
  rw [Bool.eq_iff_iff, beq_iff_eq, decide_eq_true_iff, ByteArray.toList_eq, ByteArray.toList_eq]
  constructor
  · intro h
    obtain ⟨⟨x⟩⟩ := a
    obtain ⟨⟨y⟩⟩ := b
    simpa using h
  · rintro rfl; rfl
theorem std_gav : Tryd.prog.stoodInHeld 60 = false := by kernel_rfl
theorem std_id : Tryd.prog.stoodInHeld 24 = false := by kernel_rfl
theorem eq_kGav (a b : Gav) (w : World) : (Op.equal 60 (kGav a) (kGav b)).run Tryd.prog w = .ok (decide (a = b)) w := by
  have h := std_gav
  obtain ⟨a0, a1, a2⟩ := a
  obtain ⟨b0, b1, b2⟩ := b
  simp only [Op.equal, Op.maxDepth, kGav, gavC]
  by_cases h0 : a0 = b0 <;> by_cases h1 : a1 = b1 <;> by_cases h2 : a2 = b2 <;> simp [go_sem, h, h0, h1, h2, beq_str]
theorem eq_kId (a b : Id) (w : World) : (Op.equal 24 (kId a) (kId b)).run Tryd.prog w = .ok (decide (a = b)) w := by
  have h := std_id
  obtain ⟨a0, a1⟩ := a
  obtain ⟨b0, b1⟩ := b
  simp only [Op.equal, Op.maxDepth, kId, idC]
  by_cases h0 : a0 = b0 <;> by_cases h1 : a1 = b1 <;> simp [go_sem, h, h0, h1, beq_str]
theorem chk_str (b : Bool) (n : Nat) (s : S) (w : World) : (Instr.checkKey b (n + 1) 9 (.string s)).run Tryd.prog w = .ok () w := by
  simp [Instr.checkKey, run_underlying Tryd.underlying9]
theorem chk_gav (b : Bool) (k : Gav) (w : World) : (Instr.checkKey b 10000 60 (kGav k)).run Tryd.prog w = .ok () w := by
  obtain ⟨a0, a1, a2⟩ := k
  rw [show (10000 : Nat) = 9998 + 1 + 1 from rfl]
  generalize 9998 = n
  rw [Instr.checkKey]
  simp only [kGav, gavC, Sem.run_bind, run_underlying Tryd.underlying60, Result.andThen_ok]
  have hs := fun b n s w => chk_str b n s w
  simp [go_sem, hs]
theorem chk_id (b : Bool) (k : Id) (w : World) : (Instr.checkKey b 10000 24 (kId k)).run Tryd.prog w = .ok () w := by
  obtain ⟨a0, a1⟩ := k
  rw [show (10000 : Nat) = 9998 + 1 + 1 from rfl]
  generalize 9998 = n
  rw [Instr.checkKey]
  simp only [kId, idC, Sem.run_bind, run_underlying Tryd.underlying24, Result.andThen_ok]
  have hs := fun b n s w => chk_str b n s w
  simp [go_sem, hs]
theorem mk_gav : MKey Tryd.prog 60 kGav := ⟨⟨_, Tryd.underlying60⟩, eq_kGav, chk_gav⟩
theorem mk_id : MKey Tryd.prog 24 kId := ⟨⟨_, Tryd.underlying24⟩, eq_kId, chk_id⟩
theorem bytes_same (s : S) : (s == s) = true := by rw [beq_toListBytes]; simp
theorem same_gav (k : Gav) : Instr.sameBits 10000 (kGav k) (kGav k) = true := by
  rw [show (10000 : Nat) = 9998 + 1 + 1 from rfl]
  simp [Instr.sameBits, kGav, gavC, bytes_same]
theorem same_id (k : Id) : Instr.sameBits 10000 (kId k) (kId k) = true := by
  rw [show (10000 : Nat) = 9998 + 1 + 1 from rfl]
  simp [Instr.sameBits, kId, idC, bytes_same]
theorem zeroPtr (w : World) : (zeroValue 97).run Tryd.prog w = .ok (.pointer none) w := by kernel_rfl
theorem zeroRow (w : World) : (zeroValue 29).run Tryd.prog w = .ok nilS w := by kernel_rfl
theorem look_ent {w : World} {m : Nat} {L : List (MEnt Gav)} {c : Nat} (g : Gav) (h : MMap kGav w m L c) :
    (Instr.lookup 87 (.map (some m)) (.agg #[.string g.group, .string g.artifact, .string g.version]) false).run Tryd.prog w = .ok ((mGet L g).getD (.pointer none)) w :=
  run_lookupM mk_gav Tryd.underlying87 zeroPtr g h
theorem look_row {w : World} {m : Nat} {L : List (MEnt Id)} {c : Nat} (x : Id) (h : MMap kId w m L c) :
    (Instr.lookup 88 (.map (some m)) (.agg #[.string x.group, .string x.artifact]) false).run Tryd.prog w = .ok (rowV L x) w :=
  run_lookupM mk_id Tryd.underlying88 zeroRow x h
theorem set_ent {w : World} {m : Nat} {L : List (MEnt Gav)} {c : Nat} (g : Gav) (v : Value) (h : MMap kGav w m L c) :
    (Instr.mapUpdate 87 (.map (some m)) (.agg #[.string g.group, .string g.artifact, .string g.version]) v).run Tryd.prog w = .ok () (mSet kGav w m (mPut L g v c) (mCnt L g c)) :=
  run_updateM mk_gav same_gav Tryd.underlying87 g v h
theorem set_row {w : World} {m : Nat} {L : List (MEnt Id)} {c : Nat} (x : Id) (v : Value) (h : MMap kId w m L c) :
    (Instr.mapUpdate 88 (.map (some m)) (.agg #[.string x.group, .string x.artifact]) v).run Tryd.prog w = .ok () (mSet kId w m (mPut L x v c) (mCnt L x c)) :=
  run_updateM mk_id same_id Tryd.underlying88 x v h
theorem len_map {K : Type} {P : Program} {kc : K → Value} {w : World} {m : Nat} {L : List (MEnt K)} {c : Nat} {t k e : TypeId} (h : MMap kc w m L c) (ht : P.underlying t = some (.map k e)) (ty : TypeId) : (Builtin.len_ #[t] ty #[.map (some m)]).run P w = .ok (.int .i64 L.length) w := by
  simp [Builtin.len_, run_underlying ht, MapKept.run_getObj_map (show w.heap[m]? = _ from h), goInt, Result.andThen]
def NewOut (w : World) (e : Ending) (w' : World) : Prop := ∃ b F, e = .returned (ptr b) ∧ StoreAt F w' b [] 0 0 ∧ (∀ k, F k → w.heap.size ≤ k) ∧ Below w.heap.size w w'
set_option maxRecDepth 100000 in
theorem new_any (w : World) : Calls Tryd.prog 25 #[] w (NewOut w) := by
  have hmm := @run_makeMap Tryd.prog
  go_enter Tryd.func25, Tryd.ntmps25
  go_wp2_with fail
  go_ret
  have e0 : MMap kGav (w.alloc (.map #[] 0)) w.heap.size [] 0 := heap_alloc_new w _
  have e1 : MMap kId ((w.alloc (.map #[] 0)).alloc (.map #[] 0)) (w.heap.size + 1) [] 0 := by
    have := heap_alloc_new (w.alloc (.map #[] 0)) (.map #[] 0)
    simpa [MMap] using this
  have hb : Below w.heap.size w (((w.alloc (.map #[] 0)).alloc (.map #[] 0)).alloc (.cells #[.map (some w.heap.size), .map (some (w.heap.size + 1)), .int .i64 0, .int .i64 0] 95)) :=
    (((Below.refl _ _).alloc (Nat.le_refl _) _).alloc (by simp) _).alloc (by simp; omega) _
  refine ⟨w.heap.size + 2, fun k => w.heap.size ≤ k ∧ k < w.heap.size + 3, rfl, ⟨w.heap.size, w.heap.size + 1, [], 0, [], 0, ?_⟩, fun k h => h.1, hb⟩
  refine ⟨Box.new _ [.map (some w.heap.size), .map (some (w.heap.size + 1)), .int .i64 0, .int .i64 0] _ _ (by simp), ?_, ?_, rfl, by simp, fun x => .inl ⟨rfl, rfl⟩, ?_, ?_, ⟨⟨by omega, by omega⟩, ⟨by omega, by omega⟩, ⟨by omega, by omega⟩, by simp⟩, ?_, ⟨by omega, by omega, by omega, by simp⟩, by simp, by simp⟩
  · exact (e0.below ((Below.refl _ _).alloc (Nat.le_refl _) _) e0.lt).below ((Below.refl _ _).alloc (Nat.le_refl _) _) (by simp; omega)
  · exact e1.below ((Below.refl _ _).alloc (Nat.le_refl _) _) e1.lt
  · intro x v k h; cases h
  · intro x y v u k h; cases h
  · intro k h; simp; omega
def HasOut (b : Bool) (w : World) (e : Ending) (w' : World) : Prop := e = .returned (.bool b) ∧ Below w.heap.size w w'
set_option maxRecDepth 100000 in
theorem has_any (g : Gav) (w : World) {F : Nat → Prop} {b : Nat} {es : List (SEnt × Nat)} {r a : Int} (h : StoreAt F w b es r a) :
    Calls Tryd.prog 54 #[ptr b, .agg #[.string g.group, .string g.artifact, .string g.version]] w (HasOut (hasG es g) w) := by
  obtain ⟨me, mv, L, cl, V, cv, h⟩ := h
  have hgt := h.get g
  have hlt := h.box.lt
  have HS := Lib.hid h
  clear h
  unfold ptr
  go_enter Tryd.func54, Tryd.ntmps54
  go_upto_region 1 with fail
  refine wp_world ?_
  intro W hW
  have hx : Box W w.heap.size [.string g.group, .string g.artifact, .string g.version] := by rw [hW]; exact Box.new w (gavC g) _ _ rfl
  have hb : Below w.heap.size w W := by rw [hW]; exact (Below.refl _ _).alloc (Nat.le_refl _) _
  clear hW
  have HX := Lib.hid hx
  have HB := Lib.hid hb
  have x0 := hx.cell 0 _ rfl
  have x1 := hx.cell 1 _ rfl
  have x2 := hx.cell 2 _ rfl
  have lx := hx.lt
  have b0 := (HS.out.box.below hb hlt).cell 0 _ rfl
  have lb := (HS.out.box.below hb hlt).lt
  have hm := HS.out.ents.below hb HS.out.ents.lt
  have hl : ∀ x : Later W, (Instr.lookup 87 (.map (some me)) (.agg #[.string g.group, .string g.artifact, .string g.version]) false).run Tryd.prog x.at_ = .ok ((mGet L g).getD (.pointer none)) x.at_ := fun x => look_ent g (hm.below x.below hm.lt)
  clear hx hb hm HX
  have hLC := @Later.cellsS W
  rw [hgt] at hl
  clear hgt
  cases hf : es.find? fun e => decide (g = e.1.gav) with
  | none =>
    rw [hf] at hl
    simp only [Option.map_none, Option.getD_none] at hl
    have HG : Hid (hasG es g = false) := by show _ = _; unfold hasG; rw [hf]; rfl
    clear hf
    refine region_laterS (by kernel_rfl) (by kernel_rfl) ?_
    repeat (go_big_quiet_step (fail))
    refine wpQuiet_nil ?_
    rintro _ ⟨nx, rfl⟩
    have HN := Lib.hid nx.below
    generalize nx.at_ = wn at *
    clear hl hLC x0 x1 x2 lx b0 lb
    go_wp2
    go_ret
    exact ⟨by rw [HG.out]; rfl, HB.out.trans (HN.out.mono HB.out.size)⟩
  | some e =>
    rw [hf] at hl
    simp only [Option.map_some, Option.getD_some, ptr] at hl
    have HG : Hid (hasG es g = true) := by show _ = _; unfold hasG; rw [hf]; rfl
    clear hf
    refine region_laterS (by kernel_rfl) (by kernel_rfl) ?_
    repeat (go_big_quiet_step (fail))
    refine wpQuiet_nil ?_
    rintro _ ⟨nx, rfl⟩
    have HN := Lib.hid nx.below
    generalize nx.at_ = wn at *
    clear hl hLC x0 x1 x2 lx b0 lb
    go_wp2
    go_ret
    exact ⟨by rw [HG.out]; rfl, HB.out.trans (HN.out.mono HB.out.size)⟩
set_option maxRecDepth 100000 in
theorem id_any (g : Gav) (w : World) : Calls Tryd.prog 55 #[.agg #[.string g.group, .string g.artifact, .string g.version]] w fun e w' => e = .returned (.agg #[.string g.group, .string g.artifact]) ∧ Below w.heap.size w w' := by
  go_enter Tryd.func55, Tryd.ntmps55
  go_wp2_with fail
  refine bodyPost_ret (v := .agg #[.string g.group, .string g.artifact]) (by simp [results, Tryd.results55, go_sem]) rfl ?_
  refine ⟨rfl, ?_⟩
  exact ((Below.refl _ _).alloc (Nat.le_refl _) _).alloc (by simp) _

end Go.Proofs.YtecffghcpknmjaaDoor
