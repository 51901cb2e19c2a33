/- From the readings of the arguments to what the walks ask: locks that can be read are some in memory, of texts no longer than the reach. -/
import Derived.Test.YtmcjpmogjmnfpaaDoorD19
import Derived.ProofKit
import Derived.Deep.Slices
import Derived.SizedLaws
namespace Go.Proofs.YtmcjpmogjmnfpaaDoor
open Go Go.RowKit

variable {H : Type} {enc : TypeId × Value → H} {W : World} {sp : Nat → Bool} {held : Bool}

/-- What a reading weighs is within the reach. -/
def WtOk (t : TypeId) (d : DataW H) : Prop := ∀ n ∈ d.weights Tryd.prog t, n ≤ 140737488351232
theorem WtOk.field {T : TypeId} {fs : Array Field} {ds : List (DataW H)} (hu : Tryd.prog.underlying T = some (.struct fs)) (h : WtOk T (.agg ds)) {j : Nat} {t : TypeId} {d : DataW H} (ht : (fs.toList.map (·.type))[j]? = some t) (hd : ds[j]? = some d) : WtOk t d := fun n hn => by
  refine h n ?_
  unfold DataW.weights
  rw [hu]
  exact DataW.weights_mem_each ht hd n hn
theorem weights_mem_all {e : TypeId} : ∀ {ds : List (DataW H)} {d : DataW H}, d ∈ ds → ∀ n ∈ d.weights Tryd.prog e, n ∈ DataW.weightsAll Tryd.prog e ds
  | d0 :: ds, d, hd, n, hn => by
    unfold DataW.weightsAll
    rw [List.mem_append]
    rcases List.mem_cons.1 hd with rfl | hd
    · exact .inl hn
    · exact .inr (weights_mem_all hd n hn)
theorem WtOk.elem {T e : TypeId} {es sp : List (DataW H)} (hu : Tryd.prog.underlying T = some (.slice e)) (h : WtOk T (.slice es sp)) {d : DataW H} (hd : d ∈ es) : WtOk e d := fun n hn => by
  refine h n ?_
  unfold DataW.weights
  rw [hu]
  simp only [List.mem_cons, List.mem_append]
  exact .inr (.inl (weights_mem_all hd n hn))
theorem WtOk.each {ts : List TypeId} {ds : List (DataW H)} (h : (DataW.weightsEach Tryd.prog ts ds).all (· ≤ reachBytes) = true) {j : Nat} {t : TypeId} {d : DataW H} (ht : ts[j]? = some t) (hd : ds[j]? = some d) : WtOk t d := fun n hn => by
  have := List.all_eq_true.1 h _ (DataW.weights_mem_each ht hd n hn)
  exact (of_decide_eq_true this : n ≤ reachBytes)

/-- Whatever reads as type t within the reach are the cells of some a that is all right. -/
def OpensR {α : Type} (enc : TypeId × Value → H) (W : World) (sp : Nat → Bool) (held : Bool) (t : TypeId) (C : α → List Value) (Ok : α → Prop) : Prop :=
  ∀ fuel cs x, DataW.trod enc Tryd.prog W 0 sp held fuel t cs = some x → WtOk t x.1 → ∃ a, cs = C a ∧ Ok a

theorem opensR_string : OpensR enc W sp held 9 strC (fun s => s.size ≤ 140737488351232) := fun _ _ _ h hw => by
  obtain ⟨s, h1, rfl, h2⟩ := DataW.trod_string Tryd.underlying9 h
  refine ⟨s, h1, ?_⟩
  have := hw s.data.toList.length (by simp [DataW.weights])
  rw [size_data] at this; exact this
theorem opensR_int : OpensR enc W sp held 3 (fun n => [.int .i64 n]) (fun n => (Lit.int .i64 n).wf = true) := fun _ _ _ h _ => by
  obtain ⟨s, h1, -, h2⟩ := DataW.trod_int Tryd.underlying3 h
  exact ⟨s, h1, h2⟩

theorem cells_of {w : World} {a : Addr} {n : Nat} {cs : List Value} (h : w.cells? 0 a n = some cs) (hn : 0 < n) : cs.length = n ∧ a.spot = none ∧ a.block < w.heap.size ∧ ∀ j u, cs[j]? = some u → w.cell? ⟨a.block, a.off + j, none⟩ = some u := by
  unfold World.cells? at h
  rw [if_pos (Nat.zero_le _)] at h
  have hl : cs.length = n := by simpa using mapM_some_length h
  have hg : ∀ j, j < n → w.cell? (a.add j) = cs[j]? := fun j hj => mapM_some_get h j j (by simp [hj])
  have h00 : w.cell? a = some cs[0] := by
    have := hg 0 hn
    rw [show a.add 0 = a from rfl] at this
    rw [this]; simp
  have hsp : a.spot = none := by
    cases hs : a.spot with
    | none => rfl
    | some x =>
      exfalso
      simp only [World.cell?, hs, Option.isSome_some, if_true] at h00
      split at h00 <;> cases h00
  obtain ⟨b, o, s⟩ := a
  cases hsp
  refine ⟨hl, rfl, World.block_lt_of_cell? w _ h00, fun j u hu => ?_⟩
  have hj : j < n := by rw [← hl]; exact (List.getElem?_eq_some_iff.1 hu).1
  have := hg j hj
  rw [Addr.add_lit, hu] at this
  exact this

theorem list_snoc {α : Type} {l : List α} {y : α} {i : Nat} {z : α} (h : (l ++ [y])[i]? = some z) : (i < l.length ∧ l[i]? = some z) ∨ (i = l.length ∧ z = y) := by
  by_cases hi : i < l.length
  · left; rw [List.getElem?_append_left hi] at h; exact ⟨hi, h⟩
  · right
    rw [List.getElem?_append_right (by omega)] at h
    by_cases h1 : i - l.length = 0
    · rw [h1] at h; simp at h; exact ⟨by omega, h.symm⟩
    · rw [List.getElem?_eq_none (by simp; omega)] at h; cases h

theorem list_of {α : Type} {len : Nat} {P : Nat → α → Prop} (h : ∀ i, i < len → ∃ y, P i y) : ∃ l : List α, l.length = len ∧ ∀ i y, l[i]? = some y → P i y := by
  induction len with
  | zero => exact ⟨[], rfl, fun i y h => by simp at h⟩
  | succ len ih =>
    obtain ⟨l, hl, hP⟩ := ih (fun i hi => h i (by omega))
    obtain ⟨y, hy⟩ := h len (by omega)
    refine ⟨l ++ [y], by simp [hl], fun i z hz => ?_⟩
    rcases list_snoc hz with ⟨-, h1⟩ | ⟨rfl, rfl⟩
    · exact hP i z h1
    · rw [hl]; exact hy

theorem opensR_slice {α : Type} {t e n : Nat} {C : α → List Value} {Ok : α → Prop} (ht : Tryd.prog.underlying t = some (.slice e)) (hn : Tryd.prog.cellsOf e = n) (h0 : 0 < n) (he : OpensR enc W sp held e C Ok) :
    OpensR enc W sp held t (fun v : Value => [v]) (fun v => ∃ l, SliceOf n C W v l ∧ ∀ a ∈ l, Ok a) := fun fuel cs x h hw => by
  rcases Deep.open_slice ht h with ⟨rfl, -⟩ | ⟨a, len, cap, m, n', D, Pl, rfl, -, hlc, hcm, hm, rfl, hel⟩
  · exact ⟨_, rfl, [], SliceOf.nil, by simp⟩
  · rw [hn] at hel
    have hlm : len ≤ m := by rw [hm]; split <;> omega
    obtain ⟨l, hl, hP⟩ := list_of (len := len) (P := fun i y => W.cells? 0 (a.add (i * n)) n = some (C y) ∧ Ok y) (fun i hi => by
      obtain ⟨cs', h1, h2⟩ := hel i (by omega)
      obtain ⟨y, rfl, hy⟩ := he _ _ _ h2 (hw.elem ht (List.mem_map.2 ⟨i, List.mem_range.2 hi, rfl⟩))
      exact ⟨y, h1, hy⟩)
    refine ⟨_, rfl, l, ⟨some a, cap, by rw [hl], by omega, hcm, by simp, fun i y hy => ?_⟩, fun y hy => ?_⟩
    · have hil : i < len := by rw [← hl]; exact (List.getElem?_eq_some_iff.1 hy).1
      obtain ⟨y0, hy0⟩ : ∃ y0, l[0]? = some y0 := ⟨l[0]'(by omega), by simp⟩
      obtain ⟨-, hs, hb, -⟩ := cells_of (hP 0 y0 hy0).1 h0
      rw [Nat.zero_mul, show a.add 0 = a from rfl] at hs hb
      obtain ⟨b, o, s⟩ := a
      cases hs
      obtain ⟨-, -, -, hc⟩ := cells_of (hP i y hy).1 h0
      rw [Addr.add_lit] at hc
      exact ⟨b, o, rfl, hb, hc⟩
    · obtain ⟨i, hi, rfl⟩ := List.mem_iff_getElem.1 hy
      exact (hP i _ (by simp [hi])).2

theorem field1 {c : Value} {l : List Value} {k : Nat} (h : l[k]? = some c) : (l.drop k).take 1 = [c] := by
  obtain ⟨hk, rfl⟩ := List.getElem?_eq_some_iff.1 h
  rw [List.drop_eq_getElem_cons hk]; rfl

theorem cells1 {t : Nat} (h : Tryd.prog.cellsOf t = 1) {l : List Value} {k : Nat} {c : Value} (hc : l[k]? = some c) : (l.drop k).take (Tryd.prog.cellsOf t) = [c] := by rw [h, field1 hc]

theorem cellsOf_str : Tryd.prog.cellsOf 9 = 1 := by kernel_rfl
theorem cellsOf_int : Tryd.prog.cellsOf 3 = 1 := by kernel_rfl
theorem cellsOf_bool : Tryd.prog.cellsOf 4 = 1 := by kernel_rfl
theorem cellsOf_gavE : Tryd.prog.cellsOf 23 = 3 := by kernel_rfl
theorem cellsOf_keyE : Tryd.prog.cellsOf 49 = 4 := by kernel_rfl
theorem cellsOf_pinE : Tryd.prog.cellsOf 51 = 6 := by kernel_rfl
theorem cellsOf_lockE : Tryd.prog.cellsOf 26 = 4 := by kernel_rfl
theorem cellsOf_pinsE : Tryd.prog.cellsOf 24 = 1 := by kernel_rfl
theorem le_max {n : Nat} (h : n ≤ maxLen) : n ≤ 9223372036854775807 := Nat.le_trans h (by decide)
theorem lenE3 {l : List Value} (h : l.length = 3) : ∃ c0 c1 c2, l = [c0, c1, c2] := by
  match l, h with
  | [c0, c1, c2], _ => exact ⟨c0, c1, c2, rfl⟩
theorem lenE4 {l : List Value} (h : l.length = 4) : ∃ c0 c1 c2 c3, l = [c0, c1, c2, c3] := by
  match l, h with
  | [c0, c1, c2, c3], _ => exact ⟨c0, c1, c2, c3, rfl⟩
theorem lenE6 {l : List Value} (h : l.length = 6) : ∃ c0 c1 c2 c3 c4 c5, l = [c0, c1, c2, c3, c4, c5] := by
  match l, h with
  | [c0, c1, c2, c3, c4, c5], _ => exact ⟨c0, c1, c2, c3, c4, c5, rfl⟩

def gavZ (g : Gav) : Prop := g.group.size ≤ 140737488351232 ∧ g.artifact.size ≤ 140737488351232 ∧ g.version.size ≤ 140737488351232
def pinZ (p : Pin) : Prop := keyZ p.key ∧ p.version.size ≤ 140737488351232
theorem opensR_gav : OpensR enc W sp held 23 gavC gavZ := fun fuel cs x h hw => by
  obtain ⟨xs, n, -, rfl, hl, hxs, hf⟩ := DataW.trod_struct Tryd.underlying23 h
  rw [cellsOf_gavE] at hl
  obtain ⟨c0, c1, c2, rfl⟩ := lenE3 hl
  have f0 : DataW.trod enc Tryd.prog W 0 sp held n 9 (([c0, c1, c2].drop 0).take (Tryd.prog.cellsOf 9)) = xs[0]? := hf 0 _ rfl
  rw [cellsOf_str, List.getElem?_eq_getElem (by rw [hxs]; decide)] at f0
  have w0 : WtOk 9 (xs[0]'(by rw [hxs]; decide)).1 := hw.field Tryd.underlying23 (j := 0) rfl (by rw [List.getElem?_map, List.getElem?_eq_getElem (by rw [hxs]; decide)]; rfl)
  obtain ⟨a0, h0, k0⟩ := opensR_string _ _ _ f0 w0
  have f1 : DataW.trod enc Tryd.prog W 0 sp held n 9 (([c0, c1, c2].drop 1).take (Tryd.prog.cellsOf 9)) = xs[1]? := hf 1 _ rfl
  rw [cellsOf_str, List.getElem?_eq_getElem (by rw [hxs]; decide)] at f1
  have w1 : WtOk 9 (xs[1]'(by rw [hxs]; decide)).1 := hw.field Tryd.underlying23 (j := 1) rfl (by rw [List.getElem?_map, List.getElem?_eq_getElem (by rw [hxs]; decide)]; rfl)
  obtain ⟨a1, h1, k1⟩ := opensR_string _ _ _ f1 w1
  have f2 : DataW.trod enc Tryd.prog W 0 sp held n 9 (([c0, c1, c2].drop 2).take (Tryd.prog.cellsOf 9)) = xs[2]? := hf 2 _ rfl
  rw [cellsOf_str, List.getElem?_eq_getElem (by rw [hxs]; decide)] at f2
  have w2 : WtOk 9 (xs[2]'(by rw [hxs]; decide)).1 := hw.field Tryd.underlying23 (j := 2) rfl (by rw [List.getElem?_map, List.getElem?_eq_getElem (by rw [hxs]; decide)]; rfl)
  obtain ⟨a2, h2, k2⟩ := opensR_string _ _ _ f2 w2
  clear hf f0 f1 f2
  cases h0
  cases h1
  cases h2
  exact ⟨⟨a0, a1, a2⟩, rfl, k0, k1, k2⟩

theorem opensR_key : OpensR enc W sp held 49 keyC keyZ := fun fuel cs x h hw => by
  obtain ⟨xs, n, -, rfl, hl, hxs, hf⟩ := DataW.trod_struct Tryd.underlying49 h
  rw [cellsOf_keyE] at hl
  obtain ⟨c0, c1, c2, c3, rfl⟩ := lenE4 hl
  have f0 : DataW.trod enc Tryd.prog W 0 sp held n 9 (([c0, c1, c2, c3].drop 0).take (Tryd.prog.cellsOf 9)) = xs[0]? := hf 0 _ rfl
  rw [cellsOf_str, List.getElem?_eq_getElem (by rw [hxs]; decide)] at f0
  have w0 : WtOk 9 (xs[0]'(by rw [hxs]; decide)).1 := hw.field Tryd.underlying49 (j := 0) rfl (by rw [List.getElem?_map, List.getElem?_eq_getElem (by rw [hxs]; decide)]; rfl)
  obtain ⟨a0, h0, k0⟩ := opensR_string _ _ _ f0 w0
  have f1 : DataW.trod enc Tryd.prog W 0 sp held n 9 (([c0, c1, c2, c3].drop 1).take (Tryd.prog.cellsOf 9)) = xs[1]? := hf 1 _ rfl
  rw [cellsOf_str, List.getElem?_eq_getElem (by rw [hxs]; decide)] at f1
  have w1 : WtOk 9 (xs[1]'(by rw [hxs]; decide)).1 := hw.field Tryd.underlying49 (j := 1) rfl (by rw [List.getElem?_map, List.getElem?_eq_getElem (by rw [hxs]; decide)]; rfl)
  obtain ⟨a1, h1, k1⟩ := opensR_string _ _ _ f1 w1
  have f2 : DataW.trod enc Tryd.prog W 0 sp held n 9 (([c0, c1, c2, c3].drop 2).take (Tryd.prog.cellsOf 9)) = xs[2]? := hf 2 _ rfl
  rw [cellsOf_str, List.getElem?_eq_getElem (by rw [hxs]; decide)] at f2
  have w2 : WtOk 9 (xs[2]'(by rw [hxs]; decide)).1 := hw.field Tryd.underlying49 (j := 2) rfl (by rw [List.getElem?_map, List.getElem?_eq_getElem (by rw [hxs]; decide)]; rfl)
  obtain ⟨a2, h2, k2⟩ := opensR_string _ _ _ f2 w2
  have f3 : DataW.trod enc Tryd.prog W 0 sp held n 9 (([c0, c1, c2, c3].drop 3).take (Tryd.prog.cellsOf 9)) = xs[3]? := hf 3 _ rfl
  rw [cellsOf_str, List.getElem?_eq_getElem (by rw [hxs]; decide)] at f3
  have w3 : WtOk 9 (xs[3]'(by rw [hxs]; decide)).1 := hw.field Tryd.underlying49 (j := 3) rfl (by rw [List.getElem?_map, List.getElem?_eq_getElem (by rw [hxs]; decide)]; rfl)
  obtain ⟨a3, h3, k3⟩ := opensR_string _ _ _ f3 w3
  clear hf f0 f1 f2 f3
  cases h0
  cases h1
  cases h2
  cases h3
  exact ⟨⟨a0, a1, a2, a3⟩, rfl, k0, k1, k2, k3⟩

theorem opensR_pin : OpensR enc W sp held 51 pinC pinZ := fun fuel cs x h hw => by
  obtain ⟨xs, n, -, rfl, hl, hxs, hf⟩ := DataW.trod_struct Tryd.underlying51 h
  rw [cellsOf_pinE] at hl
  obtain ⟨c0, c1, c2, c3, c4, c5, rfl⟩ := lenE6 hl
  have f0 : DataW.trod enc Tryd.prog W 0 sp held n 49 (([c0, c1, c2, c3, c4, c5].drop 0).take (Tryd.prog.cellsOf 49)) = xs[0]? := hf 0 _ rfl
  rw [cellsOf_keyE, List.getElem?_eq_getElem (by rw [hxs]; decide)] at f0
  have w0 : WtOk 49 (xs[0]'(by rw [hxs]; decide)).1 := hw.field Tryd.underlying51 (j := 0) rfl (by rw [List.getElem?_map, List.getElem?_eq_getElem (by rw [hxs]; decide)]; rfl)
  obtain ⟨a0, h0, k0⟩ := opensR_key _ _ _ f0 w0
  have f1 : DataW.trod enc Tryd.prog W 0 sp held n 9 (([c0, c1, c2, c3, c4, c5].drop 4).take (Tryd.prog.cellsOf 9)) = xs[1]? := hf 1 _ rfl
  rw [cellsOf_str, List.getElem?_eq_getElem (by rw [hxs]; decide)] at f1
  have w1 : WtOk 9 (xs[1]'(by rw [hxs]; decide)).1 := hw.field Tryd.underlying51 (j := 1) rfl (by rw [List.getElem?_map, List.getElem?_eq_getElem (by rw [hxs]; decide)]; rfl)
  obtain ⟨a1, h1, k1⟩ := opensR_string _ _ _ f1 w1
  have f2 : DataW.trod enc Tryd.prog W 0 sp held n 3 (([c0, c1, c2, c3, c4, c5].drop 5).take (Tryd.prog.cellsOf 3)) = xs[2]? := hf 2 _ rfl
  rw [cellsOf_int, List.getElem?_eq_getElem (by rw [hxs]; decide)] at f2
  have w2 : WtOk 3 (xs[2]'(by rw [hxs]; decide)).1 := hw.field Tryd.underlying51 (j := 2) rfl (by rw [List.getElem?_map, List.getElem?_eq_getElem (by rw [hxs]; decide)]; rfl)
  obtain ⟨a2, h2, k2⟩ := opensR_int _ _ _ f2 w2
  clear hf f0 f1 f2
  cases h0
  cases h1
  cases h2
  exact ⟨⟨a0, a1, a2⟩, rfl, k0, k1⟩

theorem opensR_pins : OpensR enc W sp held 24 (fun v : Value => [v]) (fun v => ∃ l, SliceOf 6 pinC W v l ∧ ∀ a ∈ l, pinZ a) := opensR_slice Tryd.underlying24 cellsOf_pinE (by decide) opensR_pin
theorem opensR_lock : OpensR enc W sp held 26 (fun q : Lock × Value => lockC q.1 q.2) (fun q => SliceOf 6 pinC W q.2 q.1.pins ∧ lockZ q.1) := fun fuel cs x h hw => by
  obtain ⟨xs, n, -, rfl, hl, hxs, hf⟩ := DataW.trod_struct Tryd.underlying26 h
  rw [cellsOf_lockE] at hl
  obtain ⟨c0, c1, c2, c3, rfl⟩ := lenE4 hl
  have f0 : DataW.trod enc Tryd.prog W 0 sp held n 23 (([c0, c1, c2, c3].drop 0).take (Tryd.prog.cellsOf 23)) = xs[0]? := hf 0 _ rfl
  rw [cellsOf_gavE, List.getElem?_eq_getElem (by rw [hxs]; decide)] at f0
  have w0 : WtOk 23 (xs[0]'(by rw [hxs]; decide)).1 := hw.field Tryd.underlying26 (j := 0) rfl (by rw [List.getElem?_map, List.getElem?_eq_getElem (by rw [hxs]; decide)]; rfl)
  obtain ⟨a0, h0, k0⟩ := opensR_gav _ _ _ f0 w0
  have f1 : DataW.trod enc Tryd.prog W 0 sp held n 24 (([c0, c1, c2, c3].drop 3).take (Tryd.prog.cellsOf 24)) = xs[1]? := hf 1 _ rfl
  rw [cellsOf_pinsE, List.getElem?_eq_getElem (by rw [hxs]; decide)] at f1
  have w1 : WtOk 24 (xs[1]'(by rw [hxs]; decide)).1 := hw.field Tryd.underlying26 (j := 1) rfl (by rw [List.getElem?_map, List.getElem?_eq_getElem (by rw [hxs]; decide)]; rfl)
  obtain ⟨a1, h1, k1⟩ := opensR_pins _ _ _ f1 w1
  clear hf f0 f1
  cases h0
  cases h1
  exact ⟨(⟨a0, k1.choose⟩, _), rfl, k1.choose_spec.1, k0, k1.choose_spec.2⟩

theorem open_lockR {W : World} {base : Nat} {v : Value} {d : DataW H} {p : List MemPlace} (hval : Value.okWide Tryd.prog W .any base 26 v)
    (h : DataW.Trod enc Tryd.prog W 0 (fun _ => true) true 26 v d p) (hw : WtOk 26 d) : ∃ l lv, v = .agg (lockC l lv).toArray ∧ SliceOf 6 pinC W lv l.pins ∧ lockZ l := by
  obtain ⟨fuel, hf⟩ := h
  obtain ⟨⟨l, lv⟩, hcs, hok⟩ := opensR_lock _ _ _ hf hw
  refine ⟨l, lv, ?_, hok⟩
  simp only [Value.okWide, Tryd.underlying26] at hval
  obtain ⟨cs, rfl, -⟩ := hval
  simp only [Value.cells] at hcs
  rw [← hcs]

end Go.Proofs.YtmcjpmogjmnfpaaDoor
