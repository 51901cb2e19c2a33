/- A store in memory: its four cells, its two maps, its projects, of each id the versions; what stays when other blocks turn; no program in sight but for types' numbers. -/
import Derived.Test.YtecffghcpknmjaaDoorJO01
import Derived.Test.YtecffghcpknmjaaDoorL0
import Derived.Test.YtecffghcpknmjaaDoorV9
import Derived.Test.YtecffghcpknmjaaDoorQB
import Derived.LoopTactic

namespace Go.Proofs.YtecffghcpknmjaaDoor
open Go Go.RowKit

structure Prob where
  err : Int
  gav : Gav
  off : Int
  line : Int
  col : Int
  whr : S
def probC (x : Prob) : List Value := [.int .i64 x.err, .string x.gav.group, .string x.gav.artifact, .string x.gav.version, .int .i64 x.off, .int .i64 x.line, .int .i64 x.col, .string x.whr]
def noS : S := ⟨#[]⟩
def gavZ : Gav := ⟨noS, noS, noS⟩
def probZ : Prob := ⟨0, gavZ, 0, 0, 0, noS⟩
def pomZ : Pom := ⟨false, gavZ, noS, noS, noS, noS, [], [], []⟩
structure SEnt where
  gav : Gav
  text : S
  done : Bool
  pom : Pom
  prob : Prob
def freshE (g : Gav) (s : S) : SEnt := ⟨g, s, false, pomZ, probZ⟩
def kGav (g : Gav) : Value := .agg (gavC g).toArray
def kId (x : Id) : Value := .agg (idC x).toArray
def idOf (g : Gav) : Id := ⟨g.group, g.artifact⟩
def ptr (b : Nat) : Value := .pointer (some ⟨b, 0, none⟩)
theorem Owns.moved {α : Type} {base : Nat} {E : TypeId} {n : Nat} {C : α → List Value} {w w' : World} {v : Value} {l : List α} (h : Owns base E n C w v l) (hk : ∀ k, base ≤ k → k < w.heap.size → w'.heap[k]? = w.heap[k]?) : Owns base E n C w' v l := by
  have hlt := h.lt
  obtain ⟨h1, h2⟩ := h
  refine ⟨h1, ?_⟩
  rcases h2 with h2 | ⟨g, cap, cur, rfl, hg, hc, h3⟩
  · exact .inl h2
  · exact .inr ⟨g, cap, cur, rfl, hg, (hk g hg (hlt g rfl).2).trans hc, h3⟩
theorem DepsOwn.moved {base : Nat} {w w' : World} {v : Value} {ds : List Dep} {L : List (Dep × Value)} (h : DepsOwn base w v ds L) (hk : ∀ k, base ≤ k → k < w.heap.size → w'.heap[k]? = w.heap[k]?) : DepsOwn base w' v ds L :=
  ⟨h.row.moved hk, h.are, fun p hp => (h.excl p hp).moved hk⟩
theorem PomOwn.moved {base : Nat} {w w' : World} {p : Pom} {pv mv dv : Value} (h : PomOwn base w p pv mv dv) (hk : ∀ k, base ≤ k → k < w.heap.size → w'.heap[k]? = w.heap[k]?) : PomOwn base w' p pv mv dv :=
  ⟨h.props.moved hk, let ⟨L, h1⟩ := h.managed; ⟨L, h1.moved hk⟩, let ⟨L, h1⟩ := h.deps; ⟨L, h1.moved hk⟩⟩
/-- A project that was read lies in blocks that the store does not write again. -/
def PomKept (F : Nat → Prop) (w : World) (p : Pom) (pv mv dv : Value) : Prop := ∃ w0 base, PomOwn base w0 p pv mv dv ∧ w0.heap.size ≤ w.heap.size ∧ ∀ k, base ≤ k → k < w0.heap.size → ¬ F k ∧ w.heap[k]? = w0.heap[k]?
theorem PomKept.own {F : Nat → Prop} {w : World} {p : Pom} {pv mv dv : Value} (h : PomKept F w p pv mv dv) : ∃ base, PomOwn base w p pv mv dv := by
  obtain ⟨w0, base, h1, h2, h3⟩ := h
  exact ⟨base, h1.moved fun k a b => (h3 k a b).2⟩
theorem PomKept.only {F G : Nat → Prop} {w w' : World} {p : Pom} {pv mv dv : Value} (h : PomKept F w p pv mv dv) (ho : Only F w w') (hG : ∀ k, k < w.heap.size → G k → F k) : PomKept G w' p pv mv dv := by
  obtain ⟨w0, base, h1, h2, h3⟩ := h
  refine ⟨w0, base, h1, Nat.le_trans h2 ho.size, fun k a b => ?_⟩
  have hk : k < w.heap.size := by omega
  exact ⟨fun e => (h3 k a b).1 (hG k hk e), (ho.block k hk (h3 k a b).1).trans (h3 k a b).2⟩
theorem PomKept.no (F : Nat → Prop) (w : World) : PomKept F w pomZ (.slice none 0 0) (.slice none 0 0) (.slice none 0 0) :=
  ⟨w, w.heap.size, ⟨Owns.nil, ⟨[], DepsOwn.nil _ _⟩, ⟨[], DepsOwn.nil _ _⟩⟩, Nat.le_refl _, fun k a b => by omega⟩
theorem PomKept.new {F : Nat → Prop} {w' : World} {p : Pom} {pv mv dv : Value} {base : Nat} (h : PomOwn base w' p pv mv dv) (hF : ∀ k, F k → k < base) : PomKept F w' p pv mv dv :=
  ⟨w', base, h, Nat.le_refl _, fun k a b => ⟨fun e => by have := hF k e; omega, rfl⟩⟩
/-- The cells of a project in a store. -/
def entC (e : SEnt) (pv mv dv : Value) : List Value := [.string e.text, .int .u32 (if e.done then 1 else 0), .int .i32 0, .int .u32 0] ++ pomC e.pom pv mv dv ++ probC e.prob
def EntryAt (F : Nat → Prop) (w : World) (b : Nat) (e : SEnt) : Prop := ∃ pv mv dv, Box w b (entC e pv mv dv) ∧ PomKept F w e.pom pv mv dv
theorem EntryAt.only {F G : Nat → Prop} {w w' : World} {b : Nat} {e : SEnt} (h : EntryAt F w b e) (ho : Only F w w') (hG : ∀ k, k < w.heap.size → G k → F k) (hb : w'.heap[b]? = w.heap[b]?) : EntryAt G w' b e := by
  obtain ⟨pv, mv, dv, h1, h2⟩ := h
  refine ⟨pv, mv, dv, ⟨Nat.lt_of_lt_of_le h1.lt ho.size, fun j u hu => (World.cell?_of_block hb).trans (h1.cell j u hu), fun j => (World.frozen?_of_block hb).trans (h1.free j)⟩, h2.only ho hG⟩
/-- Of an id the versions, as they were put. -/
def versOf (es : List (SEnt × Nat)) (x : Id) : List S := ((es.map fun e => e.1.gav).filter fun g => decide (idOf g = x)).map fun g => g.version
structure StoreIn (F : Nat → Prop) (w : World) (b me mv : Nat) (L : List (MEnt Gav)) (cl : Nat) (V : List (MEnt Id)) (cv : Nat) (es : List (SEnt × Nat)) (r a : Int) : Prop where
  box : Box w b [.map (some me), .map (some mv), .int .i64 r, .int .i64 a]
  ents : MMap kGav w me L cl
  vers : MMap kId w mv V cv
  same : L.map (fun e => (e.key, e.val)) = es.map fun e => (e.1.gav, ptr e.2)
  ent : ∀ e ∈ es, EntryAt F w e.2 e.1
  row : ∀ x, (mGet V x = none ∧ versOf es x = []) ∨ ∃ v, mGet V x = some v ∧ Owns 0 9 1 strC w v (versOf es x)
  rows : ∀ x v k, mGet V x = some v → v.ownBlock = some k → F k ∧ k ≠ b ∧ k ≠ me ∧ k ≠ mv ∧ ∀ e ∈ es, e.2 ≠ k
  apart : ∀ x y v u k, mGet V x = some v → mGet V y = some u → v.ownBlock = some k → u.ownBlock = some k → x = y
  own : F b ∧ F me ∧ F mv ∧ ∀ e ∈ es, F e.2
  lt : ∀ k, F k → k < w.heap.size
  ne : b ≠ me ∧ b ≠ mv ∧ me ≠ mv ∧ ∀ e ∈ es, e.2 ≠ b ∧ e.2 ≠ me ∧ e.2 ≠ mv
  each : (es.map (·.2)).Nodup
  once : (es.map fun e => e.1.gav).Nodup
def StoreAt (F : Nat → Prop) (w : World) (b : Nat) (es : List (SEnt × Nat)) (r a : Int) : Prop := ∃ me mv L cl V cv, StoreIn F w b me mv L cl V cv es r a
theorem StoreIn.only {F G : Nat → Prop} {w w' : World} {b me mv : Nat} {L : List (MEnt Gav)} {cl : Nat} {V : List (MEnt Id)} {cv : Nat} {es : List (SEnt × Nat)} {r a : Int} (h : StoreIn F w b me mv L cl V cv es r a) (ho : Only G w w') (hG : ∀ k, F k → ¬ G k)
    (hP : ∀ e ∈ es, EntryAt F w' e.2 e.1) : StoreIn F w' b me mv L cl V cv es r a :=
  ⟨h.box.only ho (hG _ h.own.1), h.ents.only ho (hG _ h.own.2.1), h.vers.only ho (hG _ h.own.2.2.1), h.same, hP,
    fun x => (h.row x).imp id fun ⟨v, h1, h2⟩ => ⟨v, h1, h2.only ho fun k hk => hG _ (h.rows x v k h1 hk).1⟩, h.rows, h.apart, h.own, fun k hk => Nat.lt_of_lt_of_le (h.lt k hk) ho.size, h.ne, h.each, h.once⟩
/-- What only makes memory changes no store. -/
theorem StoreAt.below {F : Nat → Prop} {w w' : World} {b : Nat} {es : List (SEnt × Nat)} {r a : Int} (h : StoreAt F w b es r a) (hb : Below w.heap.size w w') : StoreAt F w' b es r a := by
  obtain ⟨me, mv, L, cl, V, cv, h⟩ := h
  exact ⟨me, mv, L, cl, V, cv, h.only (Only.of (F := fun _ => False) hb) (fun _ _ => id) fun e he => (h.ent e he).only (Only.of hb) (fun _ _ => id) (hb.block _ (h.lt _ (h.own.2.2.2 e he)))⟩
theorem StoreIn.get {F : Nat → Prop} {w : World} {b me mv : Nat} {L : List (MEnt Gav)} {cl : Nat} {V : List (MEnt Id)} {cv : Nat} {es : List (SEnt × Nat)} {r a : Int} (h : StoreIn F w b me mv L cl V cv es r a) (g : Gav) :
    mGet L g = (es.find? fun e => decide (g = e.1.gav)).map fun e => ptr e.2 := by
  have hs := h.same
  clear h
  induction L generalizing es with
  | nil =>
    cases es with
    | nil => rfl
    | cons e es => simp at hs
  | cons m L ih =>
    cases es with
    | nil => simp at hs
    | cons e es =>
      simp only [List.map_cons, List.cons.injEq, Prod.mk.injEq] at hs
      rw [mGet_cons, List.find?_cons, hs.1.1, hs.1.2]
      by_cases hg : g = e.1.gav
      · simp [hg]
      · simp [hg, ih hs.2]
def hasG (es : List (SEnt × Nat)) (g : Gav) : Bool := (es.find? fun e => decide (g = e.1.gav)).isSome
theorem StoreIn.len {F : Nat → Prop} {w : World} {b me mv : Nat} {L : List (MEnt Gav)} {cl : Nat} {V : List (MEnt Id)} {cv : Nat} {es : List (SEnt × Nat)} {r a : Int} (h : StoreIn F w b me mv L cl V cv es r a) : L.length = es.length := by
  have := congrArg List.length h.same
  simpa using this
def nilS : Value := .slice none 0 0
def rowV (V : List (MEnt Id)) (x : Id) : Value := (mGet V x).getD nilS
theorem StoreIn.rowV_owns {F : Nat → Prop} {w : World} {b me mv : Nat} {L : List (MEnt Gav)} {cl : Nat} {V : List (MEnt Id)} {cv : Nat} {es : List (SEnt × Nat)} {r a : Int} (h : StoreIn F w b me mv L cl V cv es r a) (x : Id) : Owns 0 9 1 strC w (rowV V x) (versOf es x) := by
  unfold rowV
  rcases h.row x with ⟨h1, h2⟩ | ⟨v, h1, h2⟩
  · rw [h1, h2]; exact Owns.nil
  · rw [h1]; exact h2
theorem StoreIn.rowV_at {F : Nat → Prop} {w : World} {b me mv : Nat} {L : List (MEnt Gav)} {cl : Nat} {V : List (MEnt Id)} {cv : Nat} {es : List (SEnt × Nat)} {r a : Int} (h : StoreIn F w b me mv L cl V cv es r a) (x : Id) {k : Nat} (hk : (rowV V x).ownBlock = some k) :
    F k ∧ k ≠ b ∧ k ≠ me ∧ k ≠ mv ∧ ∀ e ∈ es, e.2 ≠ k := by
  unfold rowV at hk
  cases h1 : mGet V x with
  | none => rw [h1] at hk; cases hk
  | some v => rw [h1] at hk; exact h.rows x v k h1 hk
theorem versOf_snoc (es : List (SEnt × Nat)) (e : SEnt × Nat) (x : Id) : versOf (es ++ [e]) x = versOf es x ++ if idOf e.1.gav = x then [e.1.gav.version] else [] := by
  unfold versOf
  rw [List.map_append, List.filter_append, List.map_append]
  by_cases h : idOf e.1.gav = x <;> simp [h]
theorem hasG_none {es : List (SEnt × Nat)} {g : Gav} (h : hasG es g = false) : ∀ e ∈ es, e.1.gav ≠ g := by
  unfold hasG at h
  rw [Option.isSome_eq_false_iff, Option.isNone_iff_eq_none, List.find?_eq_none] at h
  intro e he h2
  exact h e he (by simp [h2])
/-- A project more. -/
theorem StoreIn.put {F : Nat → Prop} {w w1 w2 w3 w4 : World} {b me mv eb : Nat} {L : List (MEnt Gav)} {cl : Nat} {V : List (MEnt Id)} {cv : Nat} {es : List (SEnt × Nat)} {r a : Int} {g : Gav} {s : S} {v' : Value} (h : StoreIn F w b me mv L cl V cv es r a) (hn : hasG es g = false)
    (h1 : Below w.heap.size w w1) (hbx : Box w1 eb (entC (freshE g s) nilS nilS nilS)) (heb : w.heap.size ≤ eb) (h2 : Below w1.heap.size (mSet kGav w1 me (mPut L g (ptr eb) cl) (mCnt L g cl)) w2)
    (h3 : w2.grownBy w3 (rowV V (idOf g)).ownBlock) (ho : Owns 0 9 1 strC w3 v' (versOf es (idOf g) ++ [g.version])) (hv' : v'.ownBlock = (rowV V (idOf g)).ownBlock ∨ ∃ k, w1.heap.size ≤ k ∧ v'.ownBlock = some k)
    (h4 : w4 = mSet kId w3 mv (mPut V (idOf g) v' cv) (mCnt V (idOf g) cv)) :
    (∃ F', StoreIn F' w4 b me mv (mPut L g (ptr eb) cl) (mCnt L g cl) (mPut V (idOf g) v' cv) (mCnt V (idOf g) cv) (es ++ [(freshE g s, eb)]) r a ∧ (∀ k, k < w.heap.size → F' k → F k)) ∧ Only F w w4 := by
  have hV := fun k => h.rowV_at (idOf g) (k := k)
  have s1 := h1.size
  have s2 : w1.heap.size ≤ w2.heap.size := by have := h2.size; simpa [mSet] using this
  have s3 := h3.size
  have s4 : w4.heap.size = w3.heap.size := by rw [h4]; simp [mSet]
  have lb := h.lt _ h.own.1
  have lme := h.lt _ h.own.2.1
  have lmv := h.lt _ h.own.2.2.1
  have le_ : ∀ e ∈ es, e.2 < w.heap.size := fun e he => h.lt _ (h.own.2.2.2 e he)
  have lV : ∀ k, (rowV V (idOf g)).ownBlock = some k → k < w.heap.size := fun k hk => h.lt _ (hV k hk).1
  have leb := hbx.lt
  have o12 : Only (fun k => k = me) w1 w2 := (Only.grown (mSet_grown w1 me (mPut L g (ptr eb) cl) (mCnt L g cl)) (by rintro k ⟨⟩; rfl)).trans (Only.of (F := fun k => k = me) (by have := h2; simpa [mSet] using this)) (fun _ _ => id)
  have o23 : Only (fun k => (rowV V (idOf g)).ownBlock = some k) w2 w3 := Only.grown h3 fun k hk => hk
  have o34 : Only (fun k => k = mv) w3 w4 := by rw [h4]; exact Only.grown (mSet_grown w3 mv _ _) (by rintro k ⟨⟩; rfl)
  have o24 : Only (fun k => (rowV V (idOf g)).ownBlock = some k ∨ k = mv) w2 w4 := (o23.mono fun _ _ => Or.inl).trans o34 fun _ _ => Or.inr
  have o14 : Only (fun k => k = me ∨ (rowV V (idOf g)).ownBlock = some k ∨ k = mv) w1 w4 := (o12.mono fun _ _ => Or.inl).trans o24 fun _ _ => Or.inr
  have o04 : Only (fun k => k = me ∨ (rowV V (idOf g)).ownBlock = some k ∨ k = mv) w w4 := (Only.of h1).trans o14 fun _ _ => id
  have o04F : Only F w w4 := o04.mono fun k _ hG => by
    rcases hG with rfl | e | rfl
    · exact h.own.2.1
    · exact (hV k e).1
    · exact h.own.2.2.1
  have o03 : Only (fun k => k = me ∨ (rowV V (idOf g)).ownBlock = some k) w w3 := ((Only.of (F := fun k => k = me) h1).trans o12 fun _ _ => id).mono (fun _ _ => Or.inl) |>.trans o23 fun _ _ => Or.inr
  have hmi : mIdx L g = none := by
    rw [mIdx_none, h.get, List.find?_eq_none.2 (fun e he => by have := hasG_none hn e he; simp [Ne.symm this])]
    rfl
  have hvk : ∀ k, v'.ownBlock = some k → (F k ∧ k < w.heap.size ∧ k ≠ b ∧ k ≠ me ∧ k ≠ mv ∧ ∀ e ∈ es, e.2 ≠ k) ∨ (w1.heap.size ≤ k) := fun k hk => by
    rcases hv' with e | ⟨k', hle, e⟩
    · rw [e] at hk
      exact .inl ⟨(hV k hk).1, lV k hk, (hV k hk).2⟩
    · rw [e] at hk; cases hk; exact .inr hle
  have lv' : ∀ k, v'.ownBlock = some k → k < w3.heap.size := fun k hk => (ho.lt k hk).2
  refine ⟨⟨fun k => F k ∨ (w.heap.size ≤ k ∧ k < w4.heap.size), ?_, fun k hk hF => hF.resolve_right (by omega)⟩, o04F⟩
  · refine ⟨h.box.only o04 ?_, ?_, ?_, ?_, ?_, ?_, ?_, ?_, ?_, ?_, ?_, ?_, ?_⟩
    · rintro (e | e | e)
      · exact h.ne.1 e
      · exact (hV b e).2.1 rfl
      · exact h.ne.2.1 e
    · have e1 : MMap kGav w1 me L cl := h.ents.below h1 lme
      have e2 : MMap kGav w2 me (mPut L g (ptr eb) cl) (mCnt L g cl) := (mSet_is e1).below h2 (by omega)
      refine e2.only o24 ?_
      rintro (e | e)
      · exact (hV me e).2.2.1 rfl
      · exact h.ne.2.2.1 e
    · rw [h4]
      refine mSet_is (L := V) (c := cv) (h.vers.only o03 ?_)
      rintro (e | e)
      · exact h.ne.2.2.1 e.symm
      · exact (hV mv e).2.2.2.1 rfl
    · have : mPut L g (ptr eb) cl = L ++ [⟨g, ptr eb, cl⟩] := by simp [mPut, hmi]
      rw [this, List.map_append, List.map_append, h.same]
      rfl
    · intro e he
      rcases List.mem_append.1 he with he | he
      · refine (h.ent e he).only o04F (fun k hk hF => hF.resolve_right (by omega)) (o04.block _ (le_ e he) ?_)
        rintro (e2 | e2 | e2)
        · exact (h.ne.2.2.2 e he).2.1 e2
        · exact (hV _ e2).2.2.2.2 e he rfl
        · exact (h.ne.2.2.2 e he).2.2 e2
      · obtain rfl := List.mem_singleton.1 he
        refine ⟨nilS, nilS, nilS, hbx.only o14 ?_, PomKept.no _ _⟩
        rintro (e2 | e2 | e2)
        · subst e2; omega
        · have := lV _ e2; omega
        · subst e2; omega
    · intro x
      rw [mGet_put, versOf_snoc]
      by_cases hx : x = idOf g
      · subst hx
        refine .inr ⟨v', by simp, ?_⟩
        rw [if_pos (show idOf (freshE g s, eb).1.gav = idOf g from rfl)]
        refine ho.only o34 fun k hk e => ?_
        rcases hvk k hk with hh | hh
        · exact hh.2.2.2.2.1 e
        · subst e; omega
      · rw [if_neg hx, if_neg (fun e => hx e.symm), List.append_nil]
        refine (h.row x).imp id fun ⟨v, e1, e2⟩ => ⟨v, e1, e2.only o04 fun k hk => ?_⟩
        have hr := h.rows x v k e1 hk
        rintro (e3 | e3 | e3)
        · exact hr.2.2.1 e3
        · cases hm : mGet V (idOf g) with
          | none => simp [rowV, hm, nilS, Value.ownBlock] at e3
          | some u =>
            simp only [rowV, hm, Option.getD_some] at e3
            exact hx (h.apart x (idOf g) v u k e1 hm hk e3)
        · exact hr.2.2.2.1 e3
    · intro x v k hv hk
      rw [mGet_put] at hv
      by_cases hx : x = idOf g
      · rw [if_pos hx] at hv
        cases hv
        rcases hvk k hk with ⟨hF, hlt, e1, e2, e3, e4⟩ | hh
        · refine ⟨.inl hF, e1, e2, e3, fun e he => ?_⟩
          rcases List.mem_append.1 he with he | he
          · exact e4 e he
          · obtain rfl := List.mem_singleton.1 he
            show eb ≠ k
            omega
        · have := lv' k hk
          refine ⟨.inr ⟨by omega, by omega⟩, by omega, by omega, by omega, fun e he => ?_⟩
          rcases List.mem_append.1 he with he | he
          · have := le_ e he; omega
          · obtain rfl := List.mem_singleton.1 he
            show eb ≠ k
            omega
      · rw [if_neg hx] at hv
        obtain ⟨hF, e1, e2, e3, e4⟩ := h.rows x v k hv hk
        have hlt := h.lt k hF
        refine ⟨.inl hF, e1, e2, e3, fun e he => ?_⟩
        rcases List.mem_append.1 he with he | he
        · exact e4 e he
        · obtain rfl := List.mem_singleton.1 he
          show eb ≠ k
          omega
    · have hold : ∀ y u k, mGet V y = some u → u.ownBlock = some k → v'.ownBlock = some k → y = idOf g := fun y u k hu hk hk' => by
        rcases hv' with e | ⟨k', hle, e⟩
        · rw [e] at hk'
          cases hm : mGet V (idOf g) with
          | none => simp [rowV, hm, nilS, Value.ownBlock] at hk'
          | some z =>
            simp only [rowV, hm, Option.getD_some] at hk'
            exact h.apart y (idOf g) u z k hu hm hk hk'
        · rw [e] at hk'; cases hk'
          have := h.lt k (h.rows y u k hu hk).1
          omega
      intro x y v u k hv hu hk hk'
      rw [mGet_put] at hv hu
      by_cases hx : x = idOf g
      · rw [if_pos hx] at hv
        cases hv
        by_cases hy : y = idOf g
        · rw [hx, hy]
        · rw [if_neg hy] at hu
          exact absurd (hold y u k hu hk' hk) hy
      · rw [if_neg hx] at hv
        by_cases hy : y = idOf g
        · rw [if_pos hy] at hu
          cases hu
          exact absurd (hold x v k hv hk hk') hx
        · rw [if_neg hy] at hu
          exact h.apart x y v u k hv hu hk hk'
    · refine ⟨.inl h.own.1, .inl h.own.2.1, .inl h.own.2.2.1, fun e he => ?_⟩
      rcases List.mem_append.1 he with he | he
      · exact .inl (h.own.2.2.2 e he)
      · obtain rfl := List.mem_singleton.1 he
        refine .inr ⟨heb, ?_⟩
        show eb < _
        omega
    · rintro k (hF | hF)
      · have := h.lt k hF; omega
      · exact hF.2
    · refine ⟨h.ne.1, h.ne.2.1, h.ne.2.2.1, fun e he => ?_⟩
      rcases List.mem_append.1 he with he | he
      · exact h.ne.2.2.2 e he
      · obtain rfl := List.mem_singleton.1 he
        refine ⟨?_, ?_, ?_⟩ <;> show eb ≠ _ <;> omega
    · rw [List.map_append, List.nodup_append]
      refine ⟨h.each, by simp, fun x hx y hy => ?_⟩
      obtain ⟨e, he, rfl⟩ := List.mem_map.1 hx
      simp at hy; subst hy
      have := le_ e he
      omega
    · rw [List.map_append, List.nodup_append]
      refine ⟨h.once, by simp, fun x hx y hy => ?_⟩
      obtain ⟨e, he, rfl⟩ := List.mem_map.1 hx
      simp at hy; subst hy
      exact hasG_none hn e he
/-- Projects that nobody asked for. -/
def FreshAt (w : World) (es : List (SEnt × Nat)) : Prop := ∀ e ∈ es, Box w e.2 (entC e.1 nilS nilS nilS) ∧ e.1.pom = pomZ
theorem FreshAt.below {w w' : World} {es : List (SEnt × Nat)} (h : FreshAt w es) (hb : Below w.heap.size w w') : FreshAt w' es := fun e he => ⟨(h e he).1.below hb (h e he).1.lt, (h e he).2⟩
theorem FreshAt.only {F : Nat → Prop} {w w' : World} {es : List (SEnt × Nat)} (h : FreshAt w es) (ho : Only F w w') (hF : ∀ e ∈ es, ¬ F e.2) : FreshAt w' es := fun e he => ⟨(h e he).1.only ho (hF e he), (h e he).2⟩
theorem FreshAt.ent {w : World} {es : List (SEnt × Nat)} (h : FreshAt w es) (F : Nat → Prop) : ∀ e ∈ es, EntryAt F w e.2 e.1 := fun e he => ⟨nilS, nilS, nilS, (h e he).1, by rw [(h e he).2]; exact PomKept.no _ _⟩
theorem StoreIn.put_fresh {F : Nat → Prop} {w w1 w2 w3 w4 : World} {b me mv eb : Nat} {L : List (MEnt Gav)} {cl : Nat} {V : List (MEnt Id)} {cv : Nat} {es : List (SEnt × Nat)} {r a : Int} {g : Gav} {s : S} {v' : Value} (h : StoreIn F w b me mv L cl V cv es r a)
    (h1 : Below w.heap.size w w1) (hbx : Box w1 eb (entC (freshE g s) nilS nilS nilS)) (heb : w.heap.size ≤ eb) (h2 : Below w1.heap.size (mSet kGav w1 me (mPut L g (ptr eb) cl) (mCnt L g cl)) w2)
    (h3 : w2.grownBy w3 (rowV V (idOf g)).ownBlock) (h4 : w4 = mSet kId w3 mv (mPut V (idOf g) v' cv) (mCnt V (idOf g) cv)) (hf : FreshAt w es) : FreshAt w4 (es ++ [(freshE g s, eb)]) := by
  have hV := fun k => h.rowV_at (idOf g) (k := k)
  have lme := h.lt _ h.own.2.1
  have lmv := h.lt _ h.own.2.2.1
  have lV : ∀ k, (rowV V (idOf g)).ownBlock = some k → k < w.heap.size := fun k hk => h.lt _ (hV k hk).1
  have o12 : Only (fun k => k = me) w1 w2 := (Only.grown (mSet_grown w1 me (mPut L g (ptr eb) cl) (mCnt L g cl)) (by rintro k ⟨⟩; rfl)).trans (Only.of (F := fun k => k = me) (by have := h2; simpa [mSet] using this)) (fun _ _ => id)
  have o23 : Only (fun k => (rowV V (idOf g)).ownBlock = some k) w2 w3 := Only.grown h3 fun k hk => hk
  have o34 : Only (fun k => k = mv) w3 w4 := by rw [h4]; exact Only.grown (mSet_grown w3 mv _ _) (by rintro k ⟨⟩; rfl)
  have o24 : Only (fun k => (rowV V (idOf g)).ownBlock = some k ∨ k = mv) w2 w4 := (o23.mono fun _ _ => Or.inl).trans o34 fun _ _ => Or.inr
  have o14 : Only (fun k => k = me ∨ (rowV V (idOf g)).ownBlock = some k ∨ k = mv) w1 w4 := (o12.mono fun _ _ => Or.inl).trans o24 fun _ _ => Or.inr
  have o04 : Only (fun k => k = me ∨ (rowV V (idOf g)).ownBlock = some k ∨ k = mv) w w4 := (Only.of h1).trans o14 fun _ _ => id
  intro e he
  rcases List.mem_append.1 he with he | he
  · refine (hf.only o04 fun e he => ?_) e he
    rintro (e2 | e2 | e2)
    · exact (h.ne.2.2.2 e he).2.1 e2
    · exact (hV _ e2).2.2.2.2 e he rfl
    · exact (h.ne.2.2.2 e he).2.2 e2
  · obtain rfl := List.mem_singleton.1 he
    refine ⟨hbx.only o14 ?_, rfl⟩
    rintro (e2 | e2 | e2)
    · subst e2; omega
    · have := lV _ e2; omega
    · subst e2; omega

end Go.Proofs.YtecffghcpknmjaaDoor

/- Plain: the document's All is the stable sort of the projects; the versions of one id in it are the stable sort of that id's versions; no program in sight. -/
namespace Go.Proofs.YtecffghcpknmjaaDoor
open Go Go.RowKit

def cmpBS (a b : S) : Int := Lib.compareBytes a.data.toList b.data.toList
theorem cmpBS_cmpr : Cmpr cmpBS := bytes_cmpr.via fun x : S => x.data.toList
theorem cmpBS_zero {a b : S} : cmpBS a b = 0 ↔ a = b := by
  constructor
  · intro h
    have h1 : a.data.toList = b.data.toList := cmpB_eq h
    obtain ⟨⟨x⟩⟩ := a
    obtain ⟨⟨y⟩⟩ := b
    simpa using h1
  · rintro rfl
    exact cmpB_refl _
/-- How the document orders projects. -/
def cmpG : Gav → Gav → Int := lexC (fun a b => cmpBS a.group b.group) (lexC (fun a b => cmpBS a.artifact b.artifact) (fun a b => cmpSV a.version b.version))
theorem cmpG_cmpr : Cmpr cmpG := (cmpBS_cmpr.via fun g : Gav => g.group).lex ((cmpBS_cmpr.via fun g : Gav => g.artifact).lex (cmpSV_cmpr.via fun g : Gav => g.version))
def ltG (a b : Gav) : Bool := decide (cmpG a b < 0)
theorem ltG_weak : Weak ltG := cmpG_cmpr.weak
theorem cmpG_same {a b : Gav} (h : idOf a = idOf b) : cmpG a b = cmpSV a.version b.version := by
  have h1 : a.group = b.group := congrArg Id.group h
  have h2 : a.artifact = b.artifact := congrArg Id.artifact h
  unfold cmpG lexC
  rw [if_neg (by simp only [h1]; exact fun h => h (cmpBS_zero.2 rfl)), if_neg (by simp only [h2]; exact fun h => h (cmpBS_zero.2 rfl))]
theorem ltG_same {a b : Gav} (h : idOf a = idOf b) : ltG a b = ltSV a.version b.version := by
  unfold ltG ltSV
  rw [cmpG_same h]
theorem eqvG_id {a b : Gav} (h : eqvB ltG a b = true) : idOf a = idOf b := by
  have h0 : cmpG a b = 0 := by
    obtain ⟨h1, h2⟩ := eqvB_iff.1 h
    have h3 := of_decide_eq_false h1
    have h4 := of_decide_eq_false h2
    have h5 := cmpG_cmpr.flip a b
    omega
  unfold cmpG lexC at h0
  by_cases hg : cmpBS a.group b.group = 0
  · rw [if_neg (by simpa using hg)] at h0
    by_cases hr : cmpBS a.artifact b.artifact = 0
    · unfold idOf
      rw [cmpBS_zero.1 hg, cmpBS_zero.1 hr]
    · rw [if_pos (by simpa using hr)] at h0
      exact absurd h0 hr
  · rw [if_pos (by simpa using hg)] at h0
    exact absurd h0 hg
/-- The versions of one id. -/
def verOf (l : List Gav) (x : Id) : List S := (l.filter fun g => decide (idOf g = x)).map fun g => g.version
theorem verOf_srt {M : List Gav} (h : Srt ltG M) (x : Id) : Srt ltSV (verOf M x) := by
  unfold verOf Srt
  rw [List.pairwise_map]
  refine (h.sublist List.filter_sublist).imp_of_mem ?_
  intro a b ha hb hab
  have e : idOf b = idOf a := (of_decide_eq_true (List.mem_filter.1 hb).2).trans (of_decide_eq_true (List.mem_filter.1 ha).2).symm
  rw [← ltG_same e]
  exact hab
theorem verOf_same {l M : List Gav} (h : SameE ltG l M) (x : Id) : SameE ltSV (verOf l x) (verOf M x) := by
  have key : ∀ (N : List Gav) (v : S), (verOf N x).filter (eqvB ltSV v) = (N.filter (eqvB ltG ⟨x.group, x.artifact, v⟩)).map fun g => g.version := fun N v => by
    unfold verOf
    rw [List.filter_map, List.filter_filter]
    congr 1
    refine List.filter_congr fun g _ => ?_
    have hx : idOf (⟨x.group, x.artifact, v⟩ : Gav) = x := rfl
    by_cases hg : idOf g = x
    · have e1 := ltG_same (a := ⟨x.group, x.artifact, v⟩) (b := g) (hx.trans hg.symm)
      have e2 := ltG_same (a := g) (b := ⟨x.group, x.artifact, v⟩) (hg.trans hx.symm)
      unfold eqvB
      rw [e1, e2]
      simp [hg]
    · have hf : eqvB ltG ⟨x.group, x.artifact, v⟩ g = false := by
        cases hc : eqvB ltG ⟨x.group, x.artifact, v⟩ g with
        | false => rfl
        | true => exact absurd ((eqvG_id hc).symm.trans hx) hg
      rw [hf, decide_eq_false hg, Bool.and_false]
  intro v
  rw [key l v, key M v, h]
/-- Insertion behind all that do not stand behind it: the document's way. -/
def insG (x : Gav) (l : List Gav) : Nat → List Gav
  | 0 => x :: l
  | k + 1 => match l[k]? with
    | none => l ++ [x]
    | some y => if ltG x y = true then insG x l k else l.take (k + 1) ++ x :: l.drop (k + 1)
def allG (l : List Gav) : List Gav := l.foldl (fun m x => insG x m m.length) []
theorem insG_spec {x : Gav} {l : List Gav} (h : Srt ltG l) : ∀ k, k ≤ l.length → (∀ y ∈ l.drop k, ltG x y = true) → Srt ltG (insG x l k) ∧ SameE ltG (l ++ [x]) (insG x l k)
  | 0, _, hd => by
    rw [List.drop_zero] at hd
    exact ⟨ins_srt ltG_weak (m1 := []) (m2 := l) h (fun y hy => by cases hy) hd, ins_same ltG_weak (m1 := []) (m2 := l) hd⟩
  | k + 1, hk, hd => by
    unfold insG
    have hk' : k < l.length := hk
    rw [List.getElem?_eq_getElem hk']
    simp only
    by_cases hx : ltG x l[k] = true
    · rw [if_pos hx]
      refine insG_spec h k (Nat.le_of_lt hk') fun y hy => ?_
      rw [List.drop_eq_getElem_cons hk'] at hy
      rcases List.mem_cons.1 hy with rfl | hy
      · exact hx
      · exact hd y hy
    · rw [if_neg hx]
      have hs : Srt ltG (l.take (k + 1) ++ l.drop (k + 1)) := by rw [List.take_append_drop]; exact h
      refine ⟨ins_srt ltG_weak hs (fun y hy => ?_) hd, ?_⟩
      · have e : l.take (k + 1) = l.take k ++ [l[k]] := by rw [List.take_add_one, List.getElem?_eq_getElem hk']; rfl
        have h2 : Srt ltG (l.take k ++ [l[k]]) := by rw [← e]; exact hs.left
        rw [e] at hy
        exact srt_last ltG_weak h2 (Bool.eq_false_iff.2 hx) y hy
      · have := ins_same ltG_weak (m1 := l.take (k + 1)) (m2 := l.drop (k + 1)) (x := x) hd
        rwa [List.take_append_drop] at this
theorem allG_spec (l : List Gav) : Srt ltG (allG l) ∧ SameE ltG l (allG l) := by
  have key : ∀ (r p m : List Gav), Srt ltG m → SameE ltG p m → Srt ltG (r.foldl (fun m x => insG x m m.length) m) ∧ SameE ltG (p ++ r) (r.foldl (fun m x => insG x m m.length) m) := fun r => by
    induction r with
    | nil => intro p m h1 h2; rw [List.append_nil]; exact ⟨h1, h2⟩
    | cons x r ih =>
      intro p m h1 h2
      obtain ⟨h3, h4⟩ := insG_spec (x := x) h1 m.length (Nat.le_refl _) (by rw [List.drop_length]; intro y hy; cases hy)
      have h5 := ih (p ++ [x]) _ h3 ((h2.app (SameE.refl [x])).trans h4)
      rw [List.append_assoc] at h5
      exact h5
  have := key l [] [] srt_nil (SameE.refl _)
  exact this
/-- The document's Versions are the program's: any stable sort of that id's versions. -/
theorem versions_same {l : List Gav} {x : Id} {M : List S} (h1 : Srt ltSV M) (h2 : SameE ltSV (verOf l x) M) : verOf (allG l) x = M :=
  srt_uniq ltSV_weak (verOf_srt (allG_spec l).1 x) h1 ((verOf_same (allG_spec l).2 x).symm.trans h2)

end Go.Proofs.YtecffghcpknmjaaDoor

/- The walk of the document's rank; the conditions stand in the theorem. -/
namespace Go.Proofs.YtecffghcpknmjaaDoor
open Go Go.RowKit

def wordsD : List Bs := [wAlpha, wBeta, wMilestone, wRc, wSnapshot, wGa, wSp]
theorem rankD_at (hy : Bool) : ∀ (k : Nat) (t : Bs), wordsD[k]? = some t → t ≠ wGa → rankV ⟨hy, false, t⟩ = k
  | 0, t, h, _ => by cases h; rfl
  | 1, t, h, _ => by cases h; rfl
  | 2, t, h, _ => by cases h; rfl
  | 3, t, h, _ => by cases h; rfl
  | 4, t, h, _ => by cases h; rfl
  | 5, t, h, g => by cases h; exact absurd rfl g
  | 6, t, h, _ => by cases h; rfl
  | k + 7, t, h, _ => by simp [wordsD] at h
theorem rankD_no (hy : Bool) (t : Bs) (h0 : t ≠ []) (h : ∀ (j : Nat) (x : Bs), wordsD[j]? = some x → x ≠ t) : rankV ⟨hy, false, t⟩ = 7 := by
  have a0 := h 0 _ rfl
  have a1 := h 1 _ rfl
  have a2 := h 2 _ rfl
  have a3 := h 3 _ rfl
  have a4 := h 4 _ rfl
  have a6 := h 6 _ rfl
  unfold rankV wordsV
  simp [List.findIdx?_cons, Ne.symm a0, Ne.symm a1, Ne.symm a2, Ne.symm a3, Ne.symm a4, Ne.symm a6, h0]
theorem bs_toList (t : Bs) : (bs t).toList = t := by rw [ByteArray.toList_eq]; simp [bs]
def wordsL : List Value := wordsD.map fun t => .string (bs t)
set_option maxRecDepth 100000 in
set_option maxHeartbeats 4000000 in
theorem refRank_any (p : PartV) (hga : p.number = false → p.text ≠ wGa) (w : World) : Calls Tryd.prog 41 #[.agg (docC p).toArray] w fun e w' => e = .returned (.int .i64 (rankV p)) ∧ Below w.heap.size w w' := by
  obtain ⟨hy, nm, t⟩ := p
  simp only at hga
  have he : ((bs t).toList == []) = t.isEmpty := by rw [bs_toList]; cases t <;> rfl
  have he2 : (bs t).toList.isEmpty = t.isEmpty := by rw [bs_toList]
  cases ht : t.isEmpty with
  | true =>
    have h0 : t = [] := List.isEmpty_iff.1 ht
    have HV : Hid (rankV ⟨hy, nm, t⟩ = 5) := by
      show _ = _
      subst h0
      cases nm <;> rfl
    rw [ht] at he he2
    rw [HV.out]
    clear HV ht h0 hga
    unfold docC
    go_enter Tryd.func41, Tryd.ntmps41
    go_wp2
    go_ret
    exact ⟨rfl, (Below.refl _ _).alloc (Nat.le_refl _) _⟩
  | false =>
    have h0 : t ≠ [] := fun e => by rw [e] at ht; cases ht
    rw [ht] at he he2
    cases nm with
    | true =>
      have HV : Hid (rankV ⟨hy, true, t⟩ = if hy then 8 else 9) := by show _ = _; unfold rankV; simp only [if_true]; rw [if_neg (by rw [ht]; simp)]
      rw [HV.out]
      clear HV ht h0 hga
      unfold docC
      cases hy
      all_goals
        go_enter Tryd.func41, Tryd.ntmps41
        go_wp2
        go_ret
        exact ⟨rfl, (Below.refl _ _).alloc (Nat.le_refl _) _⟩
    | false =>
      have HAT : Hid (∀ (k : Nat) (x : Bs), wordsD[k]? = some x → x = t → rankV ⟨hy, false, t⟩ = k) := fun k x h e => by subst e; exact rankD_at hy k _ h (hga rfl)
      have HNO : Hid ((∀ (j : Nat) (x : Bs), wordsD[j]? = some x → x ≠ t) → rankV ⟨hy, false, t⟩ = 7) := fun h => rankD_no hy t h0 h
      generalize rankV ⟨hy, false, t⟩ = R at *
      clear ht h0 hga
      unfold docC
      go_enter Tryd.func41, Tryd.ntmps41
      go_upto_region 5 with fail
      refine wp_world ?_
      intro W hW
      have x1 : Box W w.heap.size [.bool true, .bool hy, .string (bs t)] := by rw [hW]; exact (Box.new w [.bool true, .bool hy, .string (bs t)] _ _ rfl).alloc _
      have y1 : Box W (w.heap.size + 1) wordsL := by rw [hW]; exact Box.new _ wordsL _ _ (by simp)
      have hb : Below w.heap.size w W := by rw [hW]; exact ((Below.refl _ w).alloc (Nat.le_refl _) _).alloc (by simp) _
      clear hW
      have HY := Lib.hid y1
      have HB := Lib.hid hb
      have x2 := x1.cell 2 _ rfl
      have xl := x1.lt
      have yl := y1.lt
      clear x1 y1 hb
      go_wp2
      go_loopw [14] (fun i wr => ∃ k : Nat, i = .int .i64 k ∧ k ≤ 7 ∧ W = wr ∧ Hid (∀ (j : Nat) (x : Bs), j < k → wordsD[j]? = some x → x ≠ t)) (fun i _ => 7 - (intOf i).toNat)
      case atStart => exact ⟨0, rfl, Nat.zero_le _, rfl, fun j x h => by omega⟩
      case round =>
        obtain ⟨k, rfl, hk, rfl, HN⟩ := hrel
        by_cases hlt : k < 7
        · have d1 : (k : Int) < 7 := by omega
          obtain ⟨x, hx⟩ : ∃ x, wordsD[k]? = some x := ⟨_, List.getElem?_eq_getElem (by exact hlt)⟩
          have c1 := HY.out.cell k (.string (bs x)) (by unfold wordsL; rw [List.getElem?_map, hx]; rfl)
          have hq : ((bs t).toList == (bs x).toList) = decide (x = t) := by
            rw [bs_toList, bs_toList]
            by_cases e : x = t
            · rw [decide_eq_true e, beq_iff_eq]; exact e.symm
            · rw [decide_eq_false e, beq_eq_false_iff_ne]; exact fun h => e h.symm
          have HX := Lib.hid hx
          have wk : IntKind.i64.wrap ((k : Int) + 1) = (k : Int) + 1 := IntWalk.i64_in _ (by omega)
          clear hx
          by_cases hxt : x = t
          · rw [decide_eq_true hxt] at hq
            have HR := Lib.hid (HAT.out k x HX.out hxt)
            clear hxt
            go_wp2
            go_ret
            exact ⟨by rw [HR.out]; rfl, HB.out⟩
          · rw [decide_eq_false hxt] at hq
            have HXT := Lib.hid hxt
            clear hxt
            go_wp2
            go_roundw
            case rel =>
              refine ⟨k + 1, by first | rfl | go_num, hlt, (by trivial), fun j y hj hy => ?_⟩
              by_cases hjk : j = k
              · subst hjk; rw [HX.out] at hy; cases hy; exact HXT.out
              · exact HN.out j y (by omega) hy
            case measure => simp [intOf]; omega
        · have d1 : ¬ (k : Int) < 7 := by omega
          have HR : Hid (R = 7) := HNO.out fun j x hx => HN.out j x (by have := (List.getElem?_eq_some_iff.1 hx).1; change j < 7 at this; omega) hx
          go_wp2
          go_ret
          exact ⟨by rw [HR.out]; try rfl, HB.out⟩

end Go.Proofs.YtecffghcpknmjaaDoor
