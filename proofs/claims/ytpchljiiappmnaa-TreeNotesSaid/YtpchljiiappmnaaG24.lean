/- From the readings of the arguments to what the walks ask: attributes and tokens that can be read are some in memory. -/
import Derived.Test.YtpchljiiappmnaaG9
import Derived.ProofKit
import Derived.Deep.Slices
import Derived.Test.YtpchljiiappmnaaG6
import Derived.Test.YtpchljiiappmnaaRows
import Derived.Test.YtpchljiiappmnaaG4
import Derived.Test.YtpchljiiappmnaaG2
import Derived.WalkKit
import Derived.OpenShut
namespace Go.Proofs.Ytpchljiiappmnaa
open Go Go.RowKit

variable {H : Type} {enc : TypeId × Value → H} {W : World} {sp : Nat → Bool} {held : Bool}

/-- Whatever reads as type t are the cells of some a that is all right. -/
def Opens {α : Type} (enc : TypeId × Value → H) (W : World) (sp : Nat → Bool) (held : Bool) (t : TypeId) (C : α → List Value) (Ok : α → Prop) : Prop :=
  ∀ fuel cs x, DataW.trod enc Try.prog W 0 sp held fuel t cs = some x → ∃ a, cs = C a ∧ Ok a

theorem opens_string : Opens enc W sp held 9 strC (fun s => s.size ≤ maxLen) := fun _ _ _ h => by
  obtain ⟨s, h1, -, h2⟩ := DataW.trod_string Try.underlying9 h
  exact ⟨s, h1, h2⟩
theorem opens_int : Opens enc W sp held 3 (fun n => [.int .i64 n]) (fun n => (Lit.int .i64 n).wf = true) := fun _ _ _ h => by
  obtain ⟨s, h1, -, h2⟩ := DataW.trod_int Try.underlying3 h
  exact ⟨s, h1, h2⟩
theorem opens_bool : Opens enc W sp held 4 (fun n => [.bool n]) (fun _ => True) := fun _ _ _ h => by
  obtain ⟨s, h1, -⟩ := DataW.trod_bool Try.underlying4 h
  exact ⟨s, h1, trivial⟩

theorem cells_of {w : World} {a : Addr} {n : Nat} {cs : List Value} (h : w.cells? 0 a n = some cs) (hn : 0 < n) : cs.length = n ∧ a.spot = none ∧ a.block < w.heap.size ∧ ∀ j u, cs[j]? = some u → w.cell? ⟨a.block, a.off + j, none⟩ = some u := by
  unfold World.cells? at h
  rw [if_pos (Nat.zero_le _)] at h
  have hl : cs.length = n := by simpa using mapM_some_length h
  have hg : ∀ j, j < n → w.cell? (a.add j) = cs[j]? := fun j hj => mapM_some_get h j j (by simp [hj])
  have h00 : w.cell? a = some cs[0] := by
    have := hg 0 hn
    rw [show a.add 0 = a from rfl] at this
    rw [this]; simp
  have hsp : a.spot = none := by
    cases hs : a.spot with
    | none => rfl
    | some x =>
      exfalso
      simp only [World.cell?, hs, Option.isSome_some, if_true] at h00
      split at h00 <;> cases h00
  obtain ⟨b, o, s⟩ := a
  cases hsp
  refine ⟨hl, rfl, World.block_lt_of_cell? w _ h00, fun j u hu => ?_⟩
  have hj : j < n := by rw [← hl]; exact (List.getElem?_eq_some_iff.1 hu).1
  have := hg j hj
  rw [Addr.add_lit, hu] at this
  exact this

theorem list_snoc {α : Type} {l : List α} {y : α} {i : Nat} {z : α} (h : (l ++ [y])[i]? = some z) : (i < l.length ∧ l[i]? = some z) ∨ (i = l.length ∧ z = y) := by
  by_cases hi : i < l.length
  · left; rw [List.getElem?_append_left hi] at h; exact ⟨hi, h⟩
  · right
    rw [List.getElem?_append_right (by omega)] at h
    by_cases h1 : i - l.length = 0
    · rw [h1] at h; simp at h; exact ⟨by omega, h.symm⟩
    · rw [List.getElem?_eq_none (by simp; omega)] at h; cases h

theorem list_of {α : Type} {len : Nat} {P : Nat → α → Prop} (h : ∀ i, i < len → ∃ y, P i y) : ∃ l : List α, l.length = len ∧ ∀ i y, l[i]? = some y → P i y := by
  induction len with
  | zero => exact ⟨[], rfl, fun i y h => by simp at h⟩
  | succ len ih =>
    obtain ⟨l, hl, hP⟩ := ih (fun i hi => h i (by omega))
    obtain ⟨y, hy⟩ := h len (by omega)
    refine ⟨l ++ [y], by simp [hl], fun i z hz => ?_⟩
    rcases list_snoc hz with ⟨-, h1⟩ | ⟨rfl, rfl⟩
    · exact hP i z h1
    · rw [hl]; exact hy

theorem opens_slice {α : Type} {t e n : Nat} {C : α → List Value} {Ok : α → Prop} (ht : Try.prog.underlying t = some (.slice e)) (hn : Try.prog.cellsOf e = n) (h0 : 0 < n) (he : Opens enc W sp held e C Ok) :
    Opens enc W sp held t (fun v : Value => [v]) (fun v => ∃ l, SliceOf n C W v l ∧ ∀ a ∈ l, Ok a) := fun fuel cs x h => by
  rcases Deep.open_slice ht h with ⟨rfl, -⟩ | ⟨a, len, cap, m, n', D, Pl, rfl, -, hlc, hcm, hm, -, hel⟩
  · exact ⟨_, rfl, [], SliceOf.nil, by simp⟩
  · rw [hn] at hel
    have hlm : len ≤ m := by rw [hm]; split <;> omega
    obtain ⟨l, hl, hP⟩ := list_of (len := len) (P := fun i y => W.cells? 0 (a.add (i * n)) n = some (C y) ∧ Ok y) (fun i hi => by
      obtain ⟨cs', h1, h2⟩ := hel i (by omega)
      obtain ⟨y, rfl, hy⟩ := he _ _ _ h2
      exact ⟨y, h1, hy⟩)
    refine ⟨_, rfl, l, ⟨some a, cap, by rw [hl], by omega, hcm, by simp, fun i y hy => ?_⟩, fun y hy => ?_⟩
    · have hil : i < len := by rw [← hl]; exact (List.getElem?_eq_some_iff.1 hy).1
      obtain ⟨y0, hy0⟩ : ∃ y0, l[0]? = some y0 := ⟨l[0]'(by omega), by simp⟩
      obtain ⟨-, hs, hb, -⟩ := cells_of (hP 0 y0 hy0).1 h0
      rw [Nat.zero_mul, show a.add 0 = a from rfl] at hs hb
      obtain ⟨b, o, s⟩ := a
      cases hs
      obtain ⟨-, -, -, hc⟩ := cells_of (hP i y hy).1 h0
      rw [Addr.add_lit] at hc
      exact ⟨b, o, rfl, hb, hc⟩
    · obtain ⟨i, hi, rfl⟩ := List.mem_iff_getElem.1 hy
      exact (hP i _ (by simp [hi])).2

theorem field1 {c : Value} {l : List Value} {k : Nat} (h : l[k]? = some c) : (l.drop k).take 1 = [c] := by
  obtain ⟨hk, rfl⟩ := List.getElem?_eq_some_iff.1 h
  rw [List.drop_eq_getElem_cons hk]; rfl

theorem cells1 {t : Nat} (h : Try.prog.cellsOf t = 1) {l : List Value} {k : Nat} {c : Value} (hc : l[k]? = some c) : (l.drop k).take (Try.prog.cellsOf t) = [c] := by rw [h, field1 hc]

theorem cellsOf_str : Try.prog.cellsOf 9 = 1 := by kernel_rfl
theorem cellsOf_int : Try.prog.cellsOf 3 = 1 := by kernel_rfl
theorem cellsOf_attr : Try.prog.cellsOf 43 = 2 := by kernel_rfl
theorem cellsOf_attrs : Try.prog.cellsOf 32 = 1 := by kernel_rfl
theorem cellsOf_place : Try.prog.cellsOf 26 = 3 := by kernel_rfl
theorem cellsOf_token : Try.prog.cellsOf 34 = 7 := by kernel_rfl

theorem len2 {l : List Value} (h : l.length = 2) : ∃ c0 c1, l = [c0, c1] := by
  match l, h with
  | [c0, c1], _ => exact ⟨c0, c1, rfl⟩
theorem len3 {l : List Value} (h : l.length = 3) : ∃ c0 c1 c2, l = [c0, c1, c2] := by
  match l, h with
  | [c0, c1, c2], _ => exact ⟨c0, c1, c2, rfl⟩
theorem len7 {l : List Value} (h : l.length = 7) : ∃ c0 c1 c2 c3 c4 c5 c6, l = [c0, c1, c2, c3, c4, c5, c6] := by
  match l, h with
  | [c0, c1, c2, c3, c4, c5, c6], _ => exact ⟨c0, c1, c2, c3, c4, c5, c6, rfl⟩

/-- Sizes that any memory has. -/
def AtOk (a : At2) : Prop := a.1.length ≤ maxLen ∧ a.2.length ≤ maxLen

theorem opens_attr : Opens enc W sp held 43 atC AtOk := fun fuel cs x h => by
  obtain ⟨xs, n, -, -, hl, hxs, hf⟩ := DataW.trod_struct Try.underlying43 h
  rw [cellsOf_attr] at hl
  obtain ⟨c0, c1, rfl⟩ := len2 hl
  have f0 : DataW.trod enc Try.prog W 0 sp held n 9 (([c0, c1].drop 0).take (Try.prog.cellsOf 9)) = xs[0]? := hf 0 _ rfl
  rw [cellsOf_str, List.getElem?_eq_getElem (by rw [hxs]; decide)] at f0
  have f1 : DataW.trod enc Try.prog W 0 sp held n 9 (([c0, c1].drop 1).take (Try.prog.cellsOf 9)) = xs[1]? := hf 1 _ rfl
  rw [cellsOf_str, List.getElem?_eq_getElem (by rw [hxs]; decide)] at f1
  obtain ⟨a0, h0, k0⟩ := opens_string _ _ _ f0
  obtain ⟨a1, h1, k1⟩ := opens_string _ _ _ f1
  clear hf f0 f1
  cases h0
  cases h1
  refine ⟨(a0.data.toList, a1.data.toList), ?_, by rw [size_data]; exact k0, by rw [size_data]; exact k1⟩
  show _ = [Value.string (bs a0.data.toList), Value.string (bs a1.data.toList)]
  rw [data_bs, data_bs]

theorem opens_attrs : Opens enc W sp held 32 (fun v : Value => [v]) (fun v => ∃ l, SliceOf 2 atC W v l ∧ ∀ a ∈ l, AtOk a) :=
  opens_slice Try.underlying32 cellsOf_attr (by decide) opens_attr

theorem opens_place : Opens enc W sp held 26 (fun p : Int × Int × Int => [.int .i64 p.1, .int .i64 p.2.1, .int .i64 p.2.2]) (fun _ => True) := fun fuel cs x h => by
  obtain ⟨xs, n, -, -, hl, hxs, hf⟩ := DataW.trod_struct Try.underlying26 h
  rw [cellsOf_place] at hl
  obtain ⟨c0, c1, c2, rfl⟩ := len3 hl
  have f0 : DataW.trod enc Try.prog W 0 sp held n 3 (([c0, c1, c2].drop 0).take (Try.prog.cellsOf 3)) = xs[0]? := hf 0 _ rfl
  rw [cellsOf_int, List.getElem?_eq_getElem (by rw [hxs]; decide)] at f0
  have f1 : DataW.trod enc Try.prog W 0 sp held n 3 (([c0, c1, c2].drop 1).take (Try.prog.cellsOf 3)) = xs[1]? := hf 1 _ rfl
  rw [cellsOf_int, List.getElem?_eq_getElem (by rw [hxs]; decide)] at f1
  have f2 : DataW.trod enc Try.prog W 0 sp held n 3 (([c0, c1, c2].drop 2).take (Try.prog.cellsOf 3)) = xs[2]? := hf 2 _ rfl
  rw [cellsOf_int, List.getElem?_eq_getElem (by rw [hxs]; decide)] at f2
  obtain ⟨a0, h0, k0⟩ := opens_int _ _ _ f0
  obtain ⟨a1, h1, k1⟩ := opens_int _ _ _ f1
  obtain ⟨a2, h2, k2⟩ := opens_int _ _ _ f2
  clear hf f0 f1 f2
  cases h0
  cases h1
  cases h2
  exact ⟨(a0, a1, a2), rfl, trivial⟩

/-- A token in memory. -/
structure TkOk (W : World) (x : TkM) : Prop where
  atts : SliceOf 2 atC W x.av x.t.attrs
  ok : ∀ a ∈ x.t.attrs, AtOk a
  name : x.t.name.length ≤ maxLen
  text : x.t.text.length ≤ maxLen

theorem opens_token : Opens enc W sp held 34 tkC (TkOk W) := fun fuel cs x h => by
  obtain ⟨xs, n, -, -, hl, hxs, hf⟩ := DataW.trod_struct Try.underlying34 h
  rw [cellsOf_token] at hl
  obtain ⟨c0, c1, c2, c3, c4, c5, c6, rfl⟩ := len7 hl
  have f0 : DataW.trod enc Try.prog W 0 sp held n 3 (([c0, c1, c2, c3, c4, c5, c6].drop 0).take (Try.prog.cellsOf 3)) = xs[0]? := hf 0 _ rfl
  rw [cellsOf_int, List.getElem?_eq_getElem (by rw [hxs]; decide)] at f0
  have f1 : DataW.trod enc Try.prog W 0 sp held n 9 (([c0, c1, c2, c3, c4, c5, c6].drop 1).take (Try.prog.cellsOf 9)) = xs[1]? := hf 1 _ rfl
  rw [cellsOf_str, List.getElem?_eq_getElem (by rw [hxs]; decide)] at f1
  have f2 : DataW.trod enc Try.prog W 0 sp held n 32 (([c0, c1, c2, c3, c4, c5, c6].drop 2).take (Try.prog.cellsOf 32)) = xs[2]? := hf 2 _ rfl
  rw [cellsOf_attrs, List.getElem?_eq_getElem (by rw [hxs]; decide)] at f2
  have f3 : DataW.trod enc Try.prog W 0 sp held n 9 (([c0, c1, c2, c3, c4, c5, c6].drop 3).take (Try.prog.cellsOf 9)) = xs[3]? := hf 3 _ rfl
  rw [cellsOf_str, List.getElem?_eq_getElem (by rw [hxs]; decide)] at f3
  have f4 : DataW.trod enc Try.prog W 0 sp held n 26 (([c0, c1, c2, c3, c4, c5, c6].drop 4).take (Try.prog.cellsOf 26)) = xs[4]? := hf 4 _ rfl
  rw [cellsOf_place, List.getElem?_eq_getElem (by rw [hxs]; decide)] at f4
  obtain ⟨a0, h0, k0⟩ := opens_int _ _ _ f0
  obtain ⟨a1, h1, k1⟩ := opens_string _ _ _ f1
  obtain ⟨a2, h2, l, hl2, hok⟩ := opens_attrs _ _ _ f2
  obtain ⟨a3, h3, k3⟩ := opens_string _ _ _ f3
  obtain ⟨p, h4, -⟩ := opens_place _ _ _ f4
  clear hf f0 f1 f2 f3 f4
  cases h0
  cases h1
  cases h2
  cases h3
  cases h4
  refine ⟨⟨⟨a0, a1.data.toList, l, a3.data.toList⟩, _, p.1, p.2.1, p.2.2⟩, ?_, hl2, hok, by rw [size_data]; exact k1, by rw [size_data]; exact k3⟩
  show _ = [Value.int .i64 a0, Value.string (bs a1.data.toList), _, Value.string (bs a3.data.toList), Value.int .i64 p.1, Value.int .i64 p.2.1, Value.int .i64 p.2.2]
  rw [data_bs, data_bs]

theorem opens_tokens : Opens enc W sp held 23 (fun v : Value => [v]) (fun v => ∃ l, SliceOf 7 tkC W v l ∧ ∀ x ∈ l, TkOk W x) :=
  opens_slice Try.underlying23 cellsOf_token (by decide) opens_token

end Go.Proofs.Ytpchljiiappmnaa

/- From the reading of an argument to what the walks ask: a tree that can be read is one in memory. -/
namespace Go.Proofs.Ytpchljiiappmnaa
open Go Go.RowKit

variable {H : Type} {enc : TypeId × Value → H} {W : World} {sp : Nat → Bool} {held : Bool}

/-- Sizes that any memory has. -/
inductive TrOk : Tr → Prop where
  | mk {n : Bs} {ats : List At2} {ks : List Tr} {x : Bs} (hn : n.length ≤ maxLen) (hx : x.length ≤ maxLen) (ha : ∀ a ∈ ats, AtOk a) (hk : ∀ k ∈ ks, TrOk k) : TrOk (.mk n ats ks x)
theorem TrOk.name {t : Tr} (h : TrOk t) : t.name.length ≤ maxLen := by cases h; assumption
theorem TrOk.text {t : Tr} (h : TrOk t) : t.text.length ≤ maxLen := by cases h; assumption
theorem TrOk.attrs {t : Tr} (h : TrOk t) : ∀ a ∈ t.attrs, AtOk a := by cases h; assumption
theorem TrOk.kids {t : Tr} (h : TrOk t) : ∀ k ∈ t.kids, TrOk k := by cases h; assumption

theorem cellsOf_node : Try.prog.cellsOf 54 = 4 := by kernel_rfl
theorem cellsOf_nodes : Try.prog.cellsOf 52 = 1 := by kernel_rfl
theorem len4 {l : List Value} (h : l.length = 4) : ∃ c0 c1 c2 c3, l = [c0, c1, c2, c3] := by
  match l, h with
  | [c0, c1, c2, c3], _ => exact ⟨c0, c1, c2, c3, rfl⟩

/-- opens_slice at one fuel. -/
theorem opens_slice_at {α : Type} {t e n fuel : Nat} {C : α → List Value} {Ok : α → Prop} (ht : Try.prog.underlying t = some (.slice e)) (hn : Try.prog.cellsOf e = n) (h0 : 0 < n) (he : ∀ fu, fu < fuel → ∀ cs x, DataW.trod enc Try.prog W 0 sp held fu e cs = some x → ∃ a, cs = C a ∧ Ok a) {cs : List Value} {x : DataW H × List MemPlace} (h : DataW.trod enc Try.prog W 0 sp held fuel t cs = some x) :
    ∃ v, cs = [v] ∧ ∃ l, SliceOf n C W v l ∧ ∀ a ∈ l, Ok a := by
  rcases DataW.trod_slice ht h with ⟨rfl, -⟩ | ⟨a, len, cap, elems, rest, n', hfu, rfl, -, -, hlc, hcm, hel, hget, -, -⟩
  · exact ⟨_, rfl, [], SliceOf.nil, by simp⟩
  · rw [hn] at hget
    obtain ⟨l, hl, hP⟩ := list_of (len := len) (P := fun i y => W.cells? 0 (a.add (i * n)) n = some (C y) ∧ Ok y) (fun i hi => by
      have h1 := hget i hi
      rw [List.getElem?_eq_getElem (by omega)] at h1
      simp only [Option.bind_eq_some_iff] at h1
      obtain ⟨cs', h2, h3⟩ := h1
      obtain ⟨y, rfl, hy⟩ := he n' (by omega) _ _ h3
      exact ⟨y, h2, hy⟩)
    refine ⟨_, rfl, l, ⟨some a, cap, by rw [hl], by omega, hcm, by simp, fun i y hy => ?_⟩, fun y hy => ?_⟩
    · have hil : i < len := by rw [← hl]; exact (List.getElem?_eq_some_iff.1 hy).1
      obtain ⟨y0, hy0⟩ : ∃ y0, l[0]? = some y0 := ⟨l[0]'(by omega), by simp⟩
      obtain ⟨-, hs, hb, -⟩ := cells_of (hP 0 y0 hy0).1 h0
      rw [Nat.zero_mul, show a.add 0 = a from rfl] at hs hb
      obtain ⟨b, o, s⟩ := a
      cases hs
      obtain ⟨-, -, -, hc⟩ := cells_of (hP i y hy).1 h0
      rw [Addr.add_lit] at hc
      exact ⟨b, o, rfl, hb, hc⟩
    · obtain ⟨i, hi, rfl⟩ := List.mem_iff_getElem.1 hy
      exact (hP i _ (by simp [hi])).2

theorem opens_node_at : ∀ (fuel : Nat) (cs : List Value) (x : DataW H × List MemPlace), DataW.trod enc Try.prog W 0 sp held fuel 54 cs = some x → ∃ y : TrV, cs = trC y ∧ NodeOf W y.1 y.2.1 y.2.2 ∧ TrOk y.1 := by
  intro fuel
  induction fuel using Nat.strongRecOn with
  | _ fuel ih =>
  intro cs x h
  obtain ⟨xs, n, hfu, -, hl, hxs, hf⟩ := DataW.trod_struct Try.underlying54 h
  rw [cellsOf_node] at hl
  obtain ⟨c0, c1, c2, c3, rfl⟩ := len4 hl
  have f0 : DataW.trod enc Try.prog W 0 sp held n 9 (([c0, c1, c2, c3].drop 0).take (Try.prog.cellsOf 9)) = xs[0]? := hf 0 _ rfl
  rw [cellsOf_str, List.getElem?_eq_getElem (by rw [hxs]; decide)] at f0
  have f1 : DataW.trod enc Try.prog W 0 sp held n 32 (([c0, c1, c2, c3].drop 1).take (Try.prog.cellsOf 32)) = xs[1]? := hf 1 _ rfl
  rw [cellsOf_attrs, List.getElem?_eq_getElem (by rw [hxs]; decide)] at f1
  have f2 : DataW.trod enc Try.prog W 0 sp held n 52 (([c0, c1, c2, c3].drop 2).take (Try.prog.cellsOf 52)) = xs[2]? := hf 2 _ rfl
  rw [cellsOf_nodes, List.getElem?_eq_getElem (by rw [hxs]; decide)] at f2
  have f3 : DataW.trod enc Try.prog W 0 sp held n 9 (([c0, c1, c2, c3].drop 3).take (Try.prog.cellsOf 9)) = xs[3]? := hf 3 _ rfl
  rw [cellsOf_str, List.getElem?_eq_getElem (by rw [hxs]; decide)] at f3
  obtain ⟨a0, h0, k0⟩ := opens_string _ _ _ f0
  obtain ⟨a1, h1, l1, hl1, hok1⟩ := opens_attrs _ _ _ f1
  obtain ⟨a2, h2, L, hL, hokL⟩ := opens_slice_at (C := trC) (Ok := fun y : TrV => NodeOf W y.1 y.2.1 y.2.2 ∧ TrOk y.1) Try.underlying52 cellsOf_node (by decide) (fun fu hlt cs x hx => ih fu (by omega) cs x hx) f2
  obtain ⟨a3, h3, k3⟩ := opens_string _ _ _ f3
  clear hf f0 f1 f2 f3
  cases h0
  cases h1
  cases h2
  cases h3
  refine ⟨(.mk a0.data.toList l1 (L.map (·.1)) a3.data.toList, c1, c2), ?_, .mk L hl1.toX rfl hL.toX (fun y hy => (hokL y hy).1), .mk (by rw [size_data]; exact k0) (by rw [size_data]; exact k3) hok1 (fun k hk => ?_)⟩
  · show _ = [Value.string (bs a0.data.toList), c1, c2, Value.string (bs a3.data.toList)]
    rw [data_bs, data_bs]
  · obtain ⟨y, hy, rfl⟩ := List.mem_map.1 hk
    exact (hokL y hy).2

theorem opens_node : Opens enc W sp held 54 trC (fun y : TrV => NodeOf W y.1 y.2.1 y.2.2 ∧ TrOk y.1) := opens_node_at

end Go.Proofs.Ytpchljiiappmnaa

/- From a walk to a row: a law that returns true and turns nothing that was there. -/
namespace Go.Proofs.Ytpchljiiappmnaa
open Go Go.ChangeShapes Go.WideShapes Go.ChangeAt Go.RowKit

theorem own : ownKnob Try.prog.godebug = none := by kernel_rfl
theorem laidOut : laidOutB Try.prog = true := by kernel_rfl

theorem trodAll_below {H : Type} {enc : TypeId × Value → H} {W W' : World} (hb : Below W.heap.size W W') : ∀ {ts : List TypeId} {vs : List Value} {ds : List (DataW H)} {ps : List MemPlace},
    (∀ t ∈ ts, Try.prog.readableRec t = true ∧ t < Try.prog.types.size) → DataW.TrodAll enc Try.prog W 0 (fun _ => true) true ts vs ds ps → (∀ x ∈ ps, x.block < W.heap.size) →
    DataW.TrodAll enc Try.prog W' 0 (fun b => decide (b < W.heap.size)) true ts vs ds ps
  | [], [], [], _, _, h, _ => h
  | t :: ts, v :: vs, d :: ds, ps, hr, h, hlt => by
    obtain ⟨p, q, h1, h2, rfl⟩ := h
    exact ⟨p, q, Below.trod laidOut (hr t (by simp)).1 (hr t (by simp)).2 h1 hb (fun x hx => hlt x (by simp [hx])),
      trodAll_below hb (fun u hu => hr u (by simp [hu])) h2 (fun x hx => hlt x (by simp [hx])), rfl⟩
  | [], [], _ :: _, _, _, h, _ => h.elim
  | [], _ :: _, _, _, _, h, _ => h.elim
  | _ :: _, [], _, _, _, h, _ => h.elim
  | _ :: _, _ :: _, [], _, _, h, _ => h.elim

end Go.Proofs.Ytpchljiiappmnaa
