/- What a bound on the bulk of the arguments gives: tokens that can be read are in memory, and so many letters at the most. -/
import Derived.Test.YtpchljiiappmnaaKOpen
import Derived.Test.YtpchljiiappmnaaK51
import Derived.Test.YtpchljiiappmnaaRows
import Derived.Deep.CondSized
namespace Go.Proofs.Ytpchljiiappmnaa
open Go Go.RowKit

variable {H : Type} {enc : TypeId × Value → H} {W : World} {sp : Nat → Bool} {held : Bool}

/-- Whatever reads as type t are the cells of some a that is all right, and no heavier than the reading. -/
def OpensB {α : Type} (enc : TypeId × Value → H) (W : World) (sp : Nat → Bool) (held : Bool) (t : TypeId) (C : α → List Value) (Ok : α → Prop) (m : α → Nat) : Prop :=
  ∀ fuel cs x, DataW.trod enc Try.prog W 0 sp held fuel t cs = some x → ∃ a, cs = C a ∧ Ok a ∧ m a ≤ Rows.uptoBulk x.1

theorem bulkB_string : OpensB enc W sp held 9 strC (fun s => s.size ≤ maxLen) (fun s => s.size) := fun _ _ x h => by
  obtain ⟨s, h1, rfl, h2⟩ := DataW.trod_string Try.underlying9 h
  refine ⟨s, h1, h2, ?_⟩
  simp only [Rows.uptoBulk]
  rw [size_data]; omega
theorem bulkB_int : OpensB enc W sp held 3 (fun n => [.int .i64 n]) (fun _ => True) (fun _ => 0) := fun _ _ x h => by
  obtain ⟨s, h1, -, h2⟩ := DataW.trod_int Try.underlying3 h
  exact ⟨s, h1, trivial, Nat.zero_le _⟩

theorem bulk_append (l r : List (DataW H)) : Rows.uptoBulkAll (l ++ r) = Rows.uptoBulkAll l + Rows.uptoBulkAll r := by
  induction l with
  | nil => simp [Rows.uptoBulkAll]
  | cons x l ih => simp only [List.cons_append, Rows.uptoBulkAll, ih]; omega
theorem list_ind {α : Type} {P : List α → Prop} (h0 : P []) (h1 : ∀ l y, P l → P (l ++ [y])) (l : List α) : P l := by
  have : ∀ n (l : List α), l.length = n → P l := by
    intro n
    induction n with
    | zero => intro l hl; rw [List.eq_nil_of_length_eq_zero hl]; exact h0
    | succ n ih =>
      intro l hl
      have hne : l ≠ [] := fun e => by rw [e] at hl; cases hl
      rw [← List.dropLast_concat_getLast hne]
      exact h1 _ _ (ih _ (by rw [List.length_dropLast, hl]; rfl))
  exact this l.length l rfl
theorem sum_bulk {α : Type} {m : α → Nat} {D : Nat → DataW H} (l : List α) (h : ∀ i y, l[i]? = some y → m y ≤ Rows.uptoBulk (D i)) : (l.map m).sum ≤ Rows.uptoBulkAll ((List.range l.length).map D) := by
  induction l using list_ind with
  | h0 => exact Nat.zero_le _
  | h1 l y ih =>
    have h1 := ih (fun i z hz => h i z (by rw [List.getElem?_append_left (List.getElem?_eq_some_iff.1 hz).1]; exact hz))
    have h2 := h l.length y (by simp)
    rw [List.length_append, List.length_singleton, List.range_succ, List.map_append, List.map_append, bulk_append, List.sum_append]
    simp only [List.map_cons, List.map_nil, List.sum_cons, List.sum_nil, Rows.uptoBulkAll]
    omega

theorem bulkB_slice {α : Type} {t e n : Nat} {C : α → List Value} {Ok : α → Prop} {m : α → Nat} (ht : Try.prog.underlying t = some (.slice e)) (hn : Try.prog.cellsOf e = n) (h0 : 0 < n) (he : OpensB enc W sp held e C Ok m) :
    ∀ fuel cs x, DataW.trod enc Try.prog W 0 sp held fuel t cs = some x → ∃ v l, cs = [v] ∧ SliceOf n C W v l ∧ (∀ a ∈ l, Ok a) ∧ (l.map m).sum + 1 ≤ Rows.uptoBulk x.1 := fun fuel cs x h => by
  rcases Deep.open_slice ht h with ⟨rfl, rfl⟩ | ⟨a, len, cap, m', n', D, Pl, rfl, -, hlc, hcm, hm, rfl, hel⟩
  · exact ⟨_, [], rfl, SliceOf.nil, by simp, by simp [Rows.uptoBulk]⟩
  · rw [hn] at hel
    have hlm : len ≤ m' := by rw [hm]; split <;> omega
    obtain ⟨l, hl, hP⟩ := list_of (len := len) (P := fun i y => W.cells? 0 (a.add (i * n)) n = some (C y) ∧ Ok y ∧ m y ≤ Rows.uptoBulk (D i)) (fun i hi => by
      obtain ⟨cs', h1, h2⟩ := hel i (by omega)
      obtain ⟨y, rfl, hy, hb⟩ := he _ _ _ h2
      exact ⟨y, h1, hy, hb⟩)
    refine ⟨_, l, rfl, ⟨some a, cap, by rw [hl], by omega, hcm, by simp, fun i y hy => ?_⟩, fun y hy => ?_, ?_⟩
    · have hil : i < len := by rw [← hl]; exact (List.getElem?_eq_some_iff.1 hy).1
      obtain ⟨y0, hy0⟩ : ∃ y0, l[0]? = some y0 := ⟨l[0]'(by omega), by simp⟩
      obtain ⟨-, hs, hb, -⟩ := cells_of (hP 0 y0 hy0).1 h0
      rw [Nat.zero_mul, show a.add 0 = a from rfl] at hs hb
      obtain ⟨b, o, s⟩ := a
      cases hs
      obtain ⟨-, -, -, hc⟩ := cells_of (hP i y hy).1 h0
      rw [Addr.add_lit] at hc
      exact ⟨b, o, rfl, hb, hc⟩
    · obtain ⟨i, hi, rfl⟩ := List.mem_iff_getElem.1 hy
      exact (hP i _ (by simp [hi])).2.1
    · have := sum_bulk l (fun i y hy => (hP i y hy).2.2)
      rw [hl] at this
      simp only [Rows.uptoBulk]; omega

def atM (a : At2) : Nat := a.1.length + a.2.length + 1
theorem bulkB_attr : OpensB enc W sp held 43 atC (fun _ => True) atM := fun fuel cs x h => by
  obtain ⟨xs, n, -, rfl, hl, hxs, hf⟩ := DataW.trod_struct Try.underlying43 h
  rw [cellsOf_attr] at hl
  obtain ⟨c0, c1, rfl⟩ := len2 hl
  have hx2 : xs.length = 2 := hxs
  obtain ⟨x0, x1, rfl⟩ : ∃ x0 x1, xs = [x0, x1] := by
    match xs, hx2 with
    | [x0, x1], _ => exact ⟨x0, x1, rfl⟩
  have f0 : DataW.trod enc Try.prog W 0 sp held n 9 (([c0, c1].drop 0).take (Try.prog.cellsOf 9)) = some x0 := hf 0 _ rfl
  rw [cellsOf_str] at f0
  have f1 : DataW.trod enc Try.prog W 0 sp held n 9 (([c0, c1].drop 1).take (Try.prog.cellsOf 9)) = some x1 := hf 1 _ rfl
  rw [cellsOf_str] at f1
  obtain ⟨a0, h0, k0, b0⟩ := bulkB_string _ _ _ f0
  obtain ⟨a1, h1, k1, b1⟩ := bulkB_string _ _ _ f1
  clear hf f0 f1
  cases h0
  cases h1
  refine ⟨(a0.data.toList, a1.data.toList), ?_, trivial, ?_⟩
  · show _ = [Value.string (bs a0.data.toList), Value.string (bs a1.data.toList)]
    rw [data_bs, data_bs]
  · unfold atM
    simp only [List.map_cons, List.map_nil, Rows.uptoBulk, Rows.uptoBulkAll]
    simp only at b0 b1
    rw [size_data, size_data]; omega

/-- A token in memory. -/
structure TkOkB (W : World) (x : TkM) : Prop where
  atts : SliceOf 2 atC W x.av x.t.attrs
def tkM (x : TkM) : Nat := x.t.name.length + x.t.text.length + (x.t.attrs.map atM).sum + 1
theorem bulkB_token : OpensB enc W sp held 34 tkC (TkOkB W) tkM := fun fuel cs x h => by
  obtain ⟨xs, n, -, rfl, hl, hxs, hf⟩ := DataW.trod_struct Try.underlying34 h
  rw [cellsOf_token] at hl
  obtain ⟨c0, c1, c2, c3, c4, c5, c6, rfl⟩ := len7 hl
  have hx5 : xs.length = 5 := hxs
  obtain ⟨x0, x1, x2, x3, x4, rfl⟩ : ∃ x0 x1 x2 x3 x4, xs = [x0, x1, x2, x3, x4] := by
    match xs, hx5 with
    | [x0, x1, x2, x3, x4], _ => exact ⟨x0, x1, x2, x3, x4, rfl⟩
  have f0 : DataW.trod enc Try.prog W 0 sp held n 3 (([c0, c1, c2, c3, c4, c5, c6].drop 0).take (Try.prog.cellsOf 3)) = some x0 := hf 0 _ rfl
  rw [cellsOf_int] at f0
  have f1 : DataW.trod enc Try.prog W 0 sp held n 9 (([c0, c1, c2, c3, c4, c5, c6].drop 1).take (Try.prog.cellsOf 9)) = some x1 := hf 1 _ rfl
  rw [cellsOf_str] at f1
  have f2 : DataW.trod enc Try.prog W 0 sp held n 32 (([c0, c1, c2, c3, c4, c5, c6].drop 2).take (Try.prog.cellsOf 32)) = some x2 := hf 2 _ rfl
  rw [cellsOf_attrs] at f2
  have f3 : DataW.trod enc Try.prog W 0 sp held n 9 (([c0, c1, c2, c3, c4, c5, c6].drop 3).take (Try.prog.cellsOf 9)) = some x3 := hf 3 _ rfl
  rw [cellsOf_str] at f3
  have f4 : DataW.trod enc Try.prog W 0 sp held n 26 (([c0, c1, c2, c3, c4, c5, c6].drop 4).take (Try.prog.cellsOf 26)) = some x4 := hf 4 _ rfl
  rw [cellsOf_place] at f4
  obtain ⟨a0, h0, k0⟩ := opens_int _ _ _ f0
  obtain ⟨a1, h1, k1, b1⟩ := bulkB_string _ _ _ f1
  obtain ⟨a2, l, h2, hl2, -, b2⟩ := bulkB_slice Try.underlying32 cellsOf_attr (by decide) bulkB_attr _ _ _ f2
  obtain ⟨a3, h3, k3, b3⟩ := bulkB_string _ _ _ f3
  obtain ⟨p, h4, -⟩ := opens_place _ _ _ f4
  clear hf f0 f1 f2 f3 f4
  cases h0
  cases h1
  cases h2
  cases h3
  cases h4
  refine ⟨⟨⟨a0, a1.data.toList, l, a3.data.toList⟩, _, p.1, p.2.1, p.2.2⟩, ?_, ⟨hl2⟩, ?_⟩
  · show _ = [Value.int .i64 a0, Value.string (bs a1.data.toList), _, Value.string (bs a3.data.toList), Value.int .i64 p.1, Value.int .i64 p.2.1, Value.int .i64 p.2.2]
    rw [data_bs, data_bs]
  · unfold tkM
    simp only [List.map_cons, List.map_nil, Rows.uptoBulk, Rows.uptoBulkAll]
    simp only at b1 b3
    rw [size_data, size_data]; omega

theorem attsW_le (l : List At2) : attsW l ≤ 6 * (l.map atM).sum := by
  induction l with
  | nil => exact Nat.le_refl _
  | cons a l ih => unfold attsW at *; simp only [List.map_cons, List.sum_cons, atM] at *; omega
theorem atts_len (l : List At2) : l.length ≤ (l.map atM).sum := by
  induction l with
  | nil => exact Nat.le_refl _
  | cons a l ih => simp only [List.map_cons, List.sum_cons, List.length_cons, atM] at *; omega
theorem tksW_le (L : List TkM) : tksW (L.map (·.t)) ≤ 26 * (L.map tkM).sum := by
  induction L with
  | nil => exact Nat.le_refl _
  | cons x L ih =>
    have := attsW_le x.t.attrs
    unfold tksW at *
    simp only [List.map_cons, List.sum_cons, tkW, tkM] at *
    omega
theorem tkM_mem {L : List TkM} {x : TkM} (h : x ∈ L) : tkM x ≤ (L.map tkM).sum := by
  induction L with
  | nil => cases h
  | cons y L ih =>
    simp only [List.map_cons, List.sum_cons]
    rcases List.mem_cons.1 h with rfl | h
    · omega
    · have := ih h; omega

set_option maxRecDepth 100000 in
/-- The tokens that came in. -/
theorem tokens_in {v : Value} {d : DataW H} {p : List MemPlace} {base : Nat} (hval : Value.okWide Try.prog W .any base 23 v) (h : DataW.Trod enc Try.prog W 0 sp held 23 v d p) (hb : Rows.uptoBulk d ≤ 1048576) :
    ∃ L, TkMs W v L ∧ tksW (L.map (·.t)) ≤ 1000000000 ∧ ∀ x ∈ L, x.t.text.length ≤ 1000000000 ∧ x.t.attrs.length ≤ 1000000000 := by
  obtain ⟨fuel, hf⟩ := h
  obtain ⟨v', L, hcs, hl, hok, hs⟩ := bulkB_slice Try.underlying23 cellsOf_token (by decide) bulkB_token _ _ _ hf
  obtain ⟨a, len, cap, rfl⟩ := WideShapes.okWide_slice Try.underlying23 hval
  have e : Value.slice a len cap = v' := by
    simp only [Value.cells] at hcs
    simpa using hcs
  subst e
  refine ⟨L, ⟨hl, fun x hx => (hok x hx).atts⟩, ?_, fun x hx => ?_⟩
  · have := tksW_le L; simp only at hs; omega
  · have h1 := tkM_mem hx
    have h2 := atts_len x.t.attrs
    have h3 : tkM x = x.t.name.length + x.t.text.length + (x.t.attrs.map atM).sum + 1 := rfl
    simp only at hs; omega

/-- The wrap of a row with a condition of its own, the world's shape kept. -/
theorem handed_upto {a : Assume} {C : Checked} {os : Os} {f : FuncId} {fn : Func} {s : OpenSpec} {k : (H : Type) → List (DataW H) → Bool} (hk : s.cond = some k) {F : Stop.Interp} {conds : List PathCond} {apart fresh handsOn again : Bool}
    (own : ownKnob C.prog.godebug = none) (started : os.Started) (noInit : C.prog.inits.idxOf? f = none) (hfn : C.prog.funcs[f]? = some fn)
    (witness : ∃ (w : World) (tape : Tape) (i : Input), w.os = os ∧ (w.forCall tape i).Shaped C.prog ∧ i.vars = [] ∧ Input.okWide C.prog (w.forCall tape i) .any w.heap.size f i ∧
      s.pre6 enc C.prog fn conds apart (w.forCall tape i).memory i.args ∧ a.holds C.prog (lone (Frame.enter C.prog f i.args .normal) [] (w.forCall tape i)))
    (contract : ∀ (W : World) (base : Nat) (args : Array Value) (ds gs : List (DataW H)) (before : List MemPlace),
      (∀ (j : Nat) t v, fn.params[j]? = some t → args[j]? = some v → Value.okWide C.prog W .any base t v) →
      DataW.Whole enc C.prog fn.params.toList s.vars apart W args.toList ds gs before → k H (ds ++ gs) = true → W.ShapedOpen C.prog →
      Calls C.prog f args W fun e W' => ∃ v, e = .returned v ∧ (s.at F).post enc C.prog fn apart fresh handsOn again W args v W') :
    ReturnsInHanded a C os f .any (s.pre6 enc C.prog fn conds apart) ((s.at F).post enc C.prog fn apart fresh handsOn again) := by
  refine returnsInHanded_of_calls own started noInit witness ?_
  intro w tape i _ hsh _ hok hpre _
  obtain ⟨_, _, _, fn', hfn', _, _, _, _, hval⟩ := hok
  obtain rfl : fn' = fn := Option.some.inj (hfn'.symm.trans hfn)
  obtain ⟨ds, gs, before, hw, -, hkk⟩ := (OpenSpec.pre_some hk conds apart _ _).1 hpre.1
  refine (contract (w.forCall tape i) w.heap.size i.args ds gs before hval (DataW.Whole.of_heap (w' := w.forCall tape i) (by rfl) hw) hkk hsh).mono fun e W' ⟨v, he, hp⟩ => ?_
  subst he
  exact ChangeSpec.post_blind hp

end Go.Proofs.Ytpchljiiappmnaa
