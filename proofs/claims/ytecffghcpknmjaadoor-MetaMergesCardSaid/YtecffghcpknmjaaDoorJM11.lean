/- The closed facts of the row MetaMerges, one by one; no conditions. -/
import Derived.Test.YtecffghcpknmjaaDoorRows
import Derived.Test.YtecffghcpknmjaaDoorJM10
import Derived.Test.YtecffghcpknmjaaDoorJM02
import Derived.ProofKit
import Derived.Deep.Slices
import Derived.Test.YtecffghcpknmjaaDoorV10
import Derived.Test.YtecffghcpknmjaaDoorTie
import Derived.Test.YtecffghcpknmjaaDoorCards
import Derived.SevenTiedAt
namespace Go.Proofs.YtecffghcpknmjaaDoor
open Go Go.ChangeShapes Go.WideShapes Go.ChangeAt Go.RowKit Go.ChangeMaps

theorem mgJandT {a b : Bool} (ha : a = true) (hb : b = true) : (a && b) = true := by rw [ha, hb]; rfl
theorem mgJ0 : (Rows.metaMergesRow.wf (OpenSpec.ofChange Rows.metaMergesSpec)) = true := by kernel_rfl
theorem mgJ1 : (laidOutB Tryd.prog) = true := by kernel_rfl
theorem mgJ2 : (mapsRowed Tryd.prog) = true := by kernel_rfl
theorem mgJ3 : (Tryd.f4.params.all (Tryd.prog.readableRec ·)) = true := by kernel_rfl
theorem mgJ4 : (namedTie Tryd.prog Rows.metaMergesRow.named Rows.metaMergesSpec.vars) = true := by kernel_rfl
theorem mgJ5 : ((Rows.metaMergesRow.stops == [])) = true := by kernel_rfl
theorem mgJ6 : ((Tryd.prog.stops == [])) = true := by kernel_rfl
theorem mgJ7 : ((Rows.metaMergesRow.knobs == [])) = true := by kernel_rfl
theorem mgJ8 : ((Tryd.prog.stopKnobs == [])) = true := by kernel_rfl
theorem mgJ9 : ((Rows.metaMergesRow.inPlace == Tryd.prog.inPlace 4)) = true := by kernel_rfl
theorem mgJ10 : ((Rows.metaMergesRow.unfollowed == Tryd.prog.unfollowed 4)) = true := by kernel_rfl
theorem mgJ11 : ((Rows.metaMergesRow.recurses == Tryd.prog.recurses 4)) = true := by kernel_rfl
theorem mgJ12 : ((Rows.metaMergesRow.named == Tryd.prog.varsNamed 4)) = true := by kernel_rfl
theorem mgJ13 : ((Rows.metaMergesRow.maps == (Tryd.f4.params.toList ++ Rows.metaMergesSpec.plain.varTypes Tryd.prog).any (Tryd.prog.mapsRec ·))) = true := by kernel_rfl
theorem mgJ14 : ((Rows.metaMergesRow.ifaces == (Tryd.f4.params.toList ++ Rows.metaMergesSpec.plain.varTypes Tryd.prog).any (Tryd.prog.ifacesRec ·))) = true := by kernel_rfl
theorem mgJ15 : ((Rows.metaMergesRow.mapsOut == Tryd.prog.mapsAmong Tryd.f4.resultTypes.toList)) = true := by kernel_rfl
theorem mgJ16 : ((Rows.metaMergesRow.loops == (Tryd.f4.params.toList ++ Rows.metaMergesSpec.plain.varTypes Tryd.prog).any (Tryd.prog.loopsFrom ·))) = true := by kernel_rfl
theorem mgJ17 : ((Rows.metaMergesRow.wideKeys == (Tryd.f4.params.toList ++ Rows.metaMergesSpec.plain.varTypes Tryd.prog ++ Tryd.f4.resultTypes.toList).any (Tryd.prog.wideKeysFrom ·))) = true := by kernel_rfl
theorem mgJ18 : (Rows.metaMergesSpec.vars.all (Tryd.prog.varReadable ·)) = true := by kernel_rfl
theorem mgJ19 : (Tryd.f4.resultTypes.all (fun t => Tryd.prog.readableRec t && decide (t < Tryd.prog.types.size))) = true := by kernel_rfl
theorem mgJ20 : ((Rows.metaMergesRow.ifacesOut == Tryd.f4.resultTypes.toList.any (Tryd.prog.ifacesRec ·))) = true := by kernel_rfl
theorem mgJ21 : ((Rows.metaMergesRow.loopsOut == Tryd.f4.resultTypes.toList.any (Tryd.prog.loopsFrom ·))) = true := by kernel_rfl
theorem mgJ22 : ((Rows.metaMergesRow.plainKeys == Tryd.prog.plainKeys)) = true := by kernel_rfl
theorem mgJ23 : (Rows.metaMergesRow.shortTexts.isNone) = true := by kernel_rfl
theorem mgJ24 : (Tryd.prog.stopsHeard) = true := by kernel_rfl
theorem mgJ25 : (Tryd.prog.mayEnter) = true := by kernel_rfl
theorem mgJ26 : ((Rows.metaMergesRow.lifted == Tryd.prog.liftsFinal)) = true := by kernel_rfl
theorem mgJ27 : ((Tryd.prog.make == some Rows.metaMergesRow.make)) = true := by kernel_rfl
theorem mgJ28 : ((Rows.metaMergesRow.kinds == (if Rows.metaMergesRow.domain.isEmpty then [] else Tryd.f4.params.toList.map fun t => match Tryd.prog.underlying t with | some (.int k) => some k | _ => none))) = true := by kernel_rfl
theorem mgJ29 : ((Rows.metaMergesRow.pinned == Rows.metaMergesRow.pinnedBy)) = true := by kernel_rfl
theorem mgJ30 : ((Rows.metaMergesRow.veiled == (Tryd.f4.params.toList ++ Rows.metaMergesSpec.plain.varTypes Tryd.prog ++ Tryd.f4.resultTypes.toList).any (Tryd.prog.veiledRec ·))) = true := by kernel_rfl
theorem mgJ31 : (Rows.metaMergesRow.veiledFits Tryd.prog Tryd.f4.params.toList (Tryd.f4.params.toList ++ Rows.metaMergesSpec.plain.varTypes Tryd.prog ++ Tryd.f4.resultTypes.toList)) = true := by kernel_rfl
set_option maxRecDepth 100000 in
theorem metaMerges_facts : joinedFacts Tryd.prog 4 Tryd.f4 Rows.metaMergesSpec Rows.metaMergesRow = true := mgJandT (mgJandT (mgJandT (mgJandT (mgJandT (mgJandT (mgJandT (mgJandT (mgJandT (mgJandT (mgJandT (mgJandT (mgJandT (mgJandT (mgJandT (mgJandT (mgJandT (mgJandT (mgJandT (mgJandT (mgJandT (mgJandT (mgJandT (mgJandT (mgJandT (mgJandT (mgJandT (mgJandT (mgJandT (mgJandT (mgJandT mgJ0 mgJ1) mgJ2) mgJ3) mgJ4) mgJ5) mgJ6) mgJ7) mgJ8) mgJ9) mgJ10) mgJ11) mgJ12) mgJ13) mgJ14) mgJ15) mgJ16) mgJ17) mgJ18) mgJ19) mgJ20) mgJ21) mgJ22) mgJ23) mgJ24) mgJ25) mgJ26) mgJ27) mgJ28) mgJ29) mgJ30) mgJ31

end Go.Proofs.YtecffghcpknmjaaDoor

/- From the readings of the arguments to what the walks ask: a Meta that can be read is one in memory. -/
namespace Go.Proofs.YtecffghcpknmjaaDoor
open Go Go.RowKit

variable {H : Type} {enc : TypeId × Value → H} {W : World} {sp : Nat → Bool} {held : Bool}

/-- Whatever reads as type t are the cells of some a that is all right. -/
def Opens {α : Type} (enc : TypeId × Value → H) (W : World) (sp : Nat → Bool) (held : Bool) (t : TypeId) (C : α → List Value) (Ok : α → Prop) : Prop :=
  ∀ fuel cs x, DataW.trod enc Tryd.prog W 0 sp held fuel t cs = some x → ∃ a, cs = C a ∧ Ok a

theorem opens_string : Opens enc W sp held 9 strC (fun s => s.size ≤ maxLen) := fun _ _ _ h => by
  obtain ⟨s, h1, -, h2⟩ := DataW.trod_string Tryd.underlying9 h
  exact ⟨s, h1, h2⟩
theorem cells_of {w : World} {a : Addr} {n : Nat} {cs : List Value} (h : w.cells? 0 a n = some cs) (hn : 0 < n) : cs.length = n ∧ a.spot = none ∧ a.block < w.heap.size ∧ ∀ j u, cs[j]? = some u → w.cell? ⟨a.block, a.off + j, none⟩ = some u := by
  unfold World.cells? at h
  rw [if_pos (Nat.zero_le _)] at h
  have hl : cs.length = n := by simpa using mapM_some_length h
  have hg : ∀ j, j < n → w.cell? (a.add j) = cs[j]? := fun j hj => mapM_some_get h j j (by simp [hj])
  have h00 : w.cell? a = some cs[0] := by
    have := hg 0 hn
    rw [show a.add 0 = a from rfl] at this
    rw [this]; simp
  have hsp : a.spot = none := by
    cases hs : a.spot with
    | none => rfl
    | some x =>
      exfalso
      simp only [World.cell?, hs, Option.isSome_some, if_true] at h00
      split at h00 <;> cases h00
  obtain ⟨b, o, s⟩ := a
  cases hsp
  refine ⟨hl, rfl, World.block_lt_of_cell? w _ h00, fun j u hu => ?_⟩
  have hj : j < n := by rw [← hl]; exact (List.getElem?_eq_some_iff.1 hu).1
  have := hg j hj
  rw [Addr.add_lit, hu] at this
  exact this

theorem list_snoc {α : Type} {l : List α} {y : α} {i : Nat} {z : α} (h : (l ++ [y])[i]? = some z) : (i < l.length ∧ l[i]? = some z) ∨ (i = l.length ∧ z = y) := by
  by_cases hi : i < l.length
  · left; rw [List.getElem?_append_left hi] at h; exact ⟨hi, h⟩
  · right
    rw [List.getElem?_append_right (by omega)] at h
    by_cases h1 : i - l.length = 0
    · rw [h1] at h; simp at h; exact ⟨by omega, h.symm⟩
    · rw [List.getElem?_eq_none (by simp; omega)] at h; cases h

theorem list_of {α : Type} {len : Nat} {P : Nat → α → Prop} (h : ∀ i, i < len → ∃ y, P i y) : ∃ l : List α, l.length = len ∧ ∀ i y, l[i]? = some y → P i y := by
  induction len with
  | zero => exact ⟨[], rfl, fun i y h => by simp at h⟩
  | succ len ih =>
    obtain ⟨l, hl, hP⟩ := ih (fun i hi => h i (by omega))
    obtain ⟨y, hy⟩ := h len (by omega)
    refine ⟨l ++ [y], by simp [hl], fun i z hz => ?_⟩
    rcases list_snoc hz with ⟨-, h1⟩ | ⟨rfl, rfl⟩
    · exact hP i z h1
    · rw [hl]; exact hy

theorem opens_slice {α : Type} {t e n : Nat} {C : α → List Value} {Ok : α → Prop} (ht : Tryd.prog.underlying t = some (.slice e)) (hn : Tryd.prog.cellsOf e = n) (h0 : 0 < n) (he : Opens enc W sp held e C Ok) :
    Opens enc W sp held t (fun v : Value => [v]) (fun v => ∃ l, SliceOf n C W v l ∧ ∀ a ∈ l, Ok a) := fun fuel cs x h => by
  rcases Deep.open_slice ht h with ⟨rfl, -⟩ | ⟨a, len, cap, m, n', D, Pl, rfl, -, hlc, hcm, hm, -, hel⟩
  · exact ⟨_, rfl, [], SliceOf.nil, by simp⟩
  · rw [hn] at hel
    have hlm : len ≤ m := by rw [hm]; split <;> omega
    obtain ⟨l, hl, hP⟩ := list_of (len := len) (P := fun i y => W.cells? 0 (a.add (i * n)) n = some (C y) ∧ Ok y) (fun i hi => by
      obtain ⟨cs', h1, h2⟩ := hel i (by omega)
      obtain ⟨y, rfl, hy⟩ := he _ _ _ h2
      exact ⟨y, h1, hy⟩)
    refine ⟨_, rfl, l, ⟨some a, cap, by rw [hl], by omega, hcm, by simp, fun i y hy => ?_⟩, fun y hy => ?_⟩
    · have hil : i < len := by rw [← hl]; exact (List.getElem?_eq_some_iff.1 hy).1
      obtain ⟨y0, hy0⟩ : ∃ y0, l[0]? = some y0 := ⟨l[0]'(by omega), by simp⟩
      obtain ⟨-, hs, hb, -⟩ := cells_of (hP 0 y0 hy0).1 h0
      rw [Nat.zero_mul, show a.add 0 = a from rfl] at hs hb
      obtain ⟨b, o, s⟩ := a
      cases hs
      obtain ⟨-, -, -, hc⟩ := cells_of (hP i y hy).1 h0
      rw [Addr.add_lit] at hc
      exact ⟨b, o, rfl, hb, hc⟩
    · obtain ⟨i, hi, rfl⟩ := List.mem_iff_getElem.1 hy
      exact (hP i _ (by simp [hi])).2

theorem field1 {c : Value} {l : List Value} {k : Nat} (h : l[k]? = some c) : (l.drop k).take 1 = [c] := by
  obtain ⟨hk, rfl⟩ := List.getElem?_eq_some_iff.1 h
  rw [List.drop_eq_getElem_cons hk]; rfl

theorem cells1 {t : Nat} (h : Tryd.prog.cellsOf t = 1) {l : List Value} {k : Nat} {c : Value} (hc : l[k]? = some c) : (l.drop k).take (Tryd.prog.cellsOf t) = [c] := by rw [h, field1 hc]

theorem cellsOf_str : Tryd.prog.cellsOf 9 = 1 := by kernel_rfl
theorem cellsOf_id : Tryd.prog.cellsOf 24 = 2 := by kernel_rfl
theorem cellsOf_strs : Tryd.prog.cellsOf 29 = 1 := by kernel_rfl
theorem cellsOf_meta : Tryd.prog.cellsOf 31 = 5 := by kernel_rfl
theorem le_max {n : Nat} (h : n ≤ maxLen) : n ≤ 9223372036854775807 := Nat.le_trans h (by decide)
theorem lenE2 {l : List Value} (h : l.length = 2) : ∃ c0 c1, l = [c0, c1] := by
  match l, h with
  | [c0, c1], _ => exact ⟨c0, c1, rfl⟩
theorem lenE5 {l : List Value} (h : l.length = 5) : ∃ c0 c1 c2 c3 c4, l = [c0, c1, c2, c3, c4] := by
  match l, h with
  | [c0, c1, c2, c3, c4], _ => exact ⟨c0, c1, c2, c3, c4, rfl⟩

theorem opens_id : Opens enc W sp held 24 idC (fun i => i.group.size ≤ maxLen ∧ i.artifact.size ≤ maxLen) := fun fuel cs x h => by
  obtain ⟨xs, n, -, -, hl, hxs, hf⟩ := DataW.trod_struct Tryd.underlying24 h
  rw [cellsOf_id] at hl
  obtain ⟨c0, c1, rfl⟩ := lenE2 hl
  have f0 : DataW.trod enc Tryd.prog W 0 sp held n 9 (([c0, c1].drop 0).take (Tryd.prog.cellsOf 9)) = xs[0]? := hf 0 _ rfl
  rw [cellsOf_str, List.getElem?_eq_getElem (by rw [hxs]; decide)] at f0
  have f1 : DataW.trod enc Tryd.prog W 0 sp held n 9 (([c0, c1].drop 1).take (Tryd.prog.cellsOf 9)) = xs[1]? := hf 1 _ rfl
  rw [cellsOf_str, List.getElem?_eq_getElem (by rw [hxs]; decide)] at f1
  obtain ⟨a0, h0, k0⟩ := opens_string _ _ _ f0
  obtain ⟨a1, h1, k1⟩ := opens_string _ _ _ f1
  clear hf f0 f1
  cases h0
  cases h1
  exact ⟨⟨a0, a1⟩, rfl, k0, k1⟩
theorem opens_strs : Opens enc W sp held 29 (fun v : Value => [v]) (fun v => ∃ l, SliceOf 1 strC W v l ∧ ∀ a ∈ l, a.size ≤ maxLen) := opens_slice Tryd.underlying29 cellsOf_str (by decide) opens_string
theorem opens_meta : Opens enc W sp held 31 (fun q : MetaD × Value => metaC q.1 q.2) (fun q => SliceOf 1 strC W q.2 q.1.vers ∧ ∀ a ∈ q.1.vers, a.size ≤ maxLen) := fun fuel cs x h => by
  obtain ⟨xs, n, -, -, hl, hxs, hf⟩ := DataW.trod_struct Tryd.underlying31 h
  rw [cellsOf_meta] at hl
  obtain ⟨c0, c1, c2, c3, c4, rfl⟩ := lenE5 hl
  have f0 : DataW.trod enc Tryd.prog W 0 sp held n 24 (([c0, c1, c2, c3, c4].drop 0).take (Tryd.prog.cellsOf 24)) = xs[0]? := hf 0 _ rfl
  rw [cellsOf_id, List.getElem?_eq_getElem (by rw [hxs]; decide)] at f0
  have f1 : DataW.trod enc Tryd.prog W 0 sp held n 29 (([c0, c1, c2, c3, c4].drop 2).take (Tryd.prog.cellsOf 29)) = xs[1]? := hf 1 _ rfl
  rw [cellsOf_strs, List.getElem?_eq_getElem (by rw [hxs]; decide)] at f1
  have f2 : DataW.trod enc Tryd.prog W 0 sp held n 9 (([c0, c1, c2, c3, c4].drop 3).take (Tryd.prog.cellsOf 9)) = xs[2]? := hf 2 _ rfl
  rw [cellsOf_str, List.getElem?_eq_getElem (by rw [hxs]; decide)] at f2
  have f3 : DataW.trod enc Tryd.prog W 0 sp held n 9 (([c0, c1, c2, c3, c4].drop 4).take (Tryd.prog.cellsOf 9)) = xs[3]? := hf 3 _ rfl
  rw [cellsOf_str, List.getElem?_eq_getElem (by rw [hxs]; decide)] at f3
  obtain ⟨a0, h0, k0⟩ := opens_id _ _ _ f0
  obtain ⟨a1, h1, k1⟩ := opens_strs _ _ _ f1
  obtain ⟨a2, h2, k2⟩ := opens_string _ _ _ f2
  obtain ⟨a3, h3, k3⟩ := opens_string _ _ _ f3
  clear hf f0 f1 f2 f3
  cases h0
  cases h1
  cases h2
  cases h3
  exact ⟨(⟨a0, k1.choose, a2, a3⟩, _), rfl, k1.choose_spec⟩

set_option maxRecDepth 100000 in
theorem open_meta {H : Type} {enc : TypeId × Value → H} {W : World} {base : Nat} {v : Value} {d : DataW H} {p : List MemPlace} (hval : Value.okWide Tryd.prog W .any base 31 v)
    (h : DataW.Trod enc Tryd.prog W 0 (fun _ => true) true 31 v d p) : ∃ (m : MetaD) (mv : Value), v = metaAg m mv ∧ SliceOf 1 strC W mv m.vers ∧ ∀ a ∈ m.vers, a.size ≤ maxLen := by
  obtain ⟨fuel, hf⟩ := h
  obtain ⟨⟨q, mv⟩, hcs, hok⟩ := opens_meta _ _ _ hf
  refine ⟨q, mv, ?_, hok⟩
  simp only [Value.okWide, Tryd.underlying31] at hval
  obtain ⟨cs, rfl, -⟩ := hval
  simp only [Value.cells] at hcs
  rw [metaAg, ← hcs]

end Go.Proofs.YtecffghcpknmjaaDoor

/- Whatever the Metas, the law MetaMerges returns true, and its arguments read behind the call as before; the card ties the library variables that the row lists; no conditions. -/
namespace Go.Proofs.YtecffghcpknmjaaDoor
open Go Go.ChangeShapes Go.WideShapes Go.ChangeAt Go.RowKit Go.ChangeMaps

theorem rt_meta : Tryd.prog.readableRec 31 = true := by kernel_rfl
theorem lt_meta : 31 < Tryd.prog.types.size := of_decide_eq_true (by kernel_rfl)

set_option maxRecDepth 100000 in
theorem metaMerges_lifted (os : Os) (started : os.Started) (H : Type) (enc : TypeId × Value → H) :
    ReturnsInHanded {} Tryd.checked os 4 .any (fun w args => (Rows.metaMergesSpec.pre enc Tryd.prog Tryd.f4 Rows.metaMergesRow.domain false w args ∧ laidMetH Tryd.prog laidL w) ∧ sizedMet enc Tryd.prog Tryd.f4 (OpenSpec.ofChange Rows.metaMergesSpec) false w args)
      (Rows.metaMergesSpec.post enc Tryd.prog Tryd.f4 false true false false) := by
  refine handed_tied (C := Tryd.checked) (X := fun w _ => laidMetH Tryd.prog laidL w) own started (by kernel_rfl) Tryd.func4
    (ChangeSpec.witness_shaped (enc := enc) (C := Tryd.checked) (os := os) (X := fun w _ => laidMetH Tryd.prog laidL w) false (World.laidAll Tryd.prog os laidL) #[.agg #[.string .empty, .string .empty, .slice none 0 0, .string .empty, .string .empty], .agg #[.string .empty, .string .empty, .slice none 0 0, .string .empty, .string .empty]] 8 (World.laidAll_os _ _ _)
      (World.shaped_of_ZipB (by kernel_rfl) (by kernel_rfl)) (by kernel_rfl) (by kernel_rfl) (by kernel_rfl)
      (by rw [MakeChecks.laidMetH_plain _ _ _ (by kernel_rfl)]; exact laidMet_laidAll _ (by kernel_rfl) (by kernel_rfl))) ?_
  intro W base args ds gs before hval0 hW _ hsh
  have hval : ∀ (j : Nat) t v, Tryd.f4.params[j]? = some t → args[j]? = some v → Value.okWide Tryd.prog W .any base t v := hval0
  have hW' := hW
  obtain ⟨p, q, hA0, hV, rfl, hfz, hnd⟩ := hW
  have hA : DataW.TrodAll enc Tryd.prog W 0 (fun _ => true) true Tryd.f4.params.toList args.toList ds p := hA0
  have hA' := hA
  rw [Tryd.params4] at hA hval
  obtain ⟨v0, v1, d0, d1, p0, p1, rfl, rfl, rfl, h0, h1⟩ := trodAll_two hA
  obtain ⟨rfl, rfl⟩ := trodVars_none hV
  obtain ⟨a, av, rfl, ha, -⟩ := open_meta (hval 0 31 v0 rfl rfl) h0
  obtain ⟨b, bv, rfl, hb0, -⟩ := open_meta (hval 1 31 v1 rfl rfl) h1
  clear hA0 hval0
  have hlt : ∀ x ∈ p0 ++ p1, x.block < W.heap.size := fun x hx => by simpa using hW'.lt x (by simpa using hx)
  refine (metaMerges_of refParts_any a b av bv W ha hb0).mono fun en W' ⟨he, hb⟩ => ?_
  subst he
  refine ⟨_, rfl, _, _, _, [], p0 ++ p1, [], hW', trodAll_mk1 (shut_bool Tryd.underlying4 _), trodAll_below hb ?_ hA' hlt, rfl, hb.frame _, fun h => by cases h⟩
  rw [Tryd.params4]
  intro t ht
  simp at ht
  subst ht
  exact ⟨rt_meta, lt_meta⟩

theorem metaMerges_row : Rows.MetaMergesSaid :=
  OpenClaim.holds_of_wide 4 Tryd.f4 rfl rfl rfl rfl rfl rfl rfl ⟨rfl, rfl, rfl, rfl, rfl⟩ rfl rfl rfl rfl rfl (by kernel_rfl) Tryd.func4 metaMerges_facts
    (of_decide_eq_true (by kernel_rfl)) (by unfold Func.isWrapper; rw [if_neg (of_decide_eq_false (by kernel_rfl))]; exact ⟨rfl, rfl⟩)
    (fun os started H enc _ => metaMerges_lifted os started H enc)

theorem metaMerges_holds : Rows.MetaMergesCardSaid :=
  Claim7.holds_tied_plain_at .later [] [.data, .pinned] true (true, "ca75daf36b89d509da9f66e728777df19afa45d836f1bfaf4e400548447fbc23") false
    metaMerges_row (fun _ h => by cases h) (by kernel_rfl) (fun _ h => by cases h) metaMerges_row_tie rfl ⟨rfl, rfl⟩ (by kernel_rfl) rfl
    (fun f fn hf hfn => by
      obtain rfl : f = 4 := Option.some.inj ((show Tryd.prog.funcNamed "pomace/pomacelaw23.MetaMerges" = some 4 by kernel_rfl).symm.trans hf) |>.symm
      obtain rfl : fn = Tryd.f4 := (Option.some.inj (Tryd.func4.symm.trans hfn)).symm
      exact ⟨by kernel_rfl, fun j t ht => by
        rw [Tryd.params4] at ht
        have hm : t ∈ [31, 31] := by simpa using Array.mem_of_getElem? ht
        have hall : ([31, 31].all fun u => !Tryd.prog.wantsStandIn u) = true := by kernel_rfl
        exact (show Tryd.prog.wantsStandIn t = false by simpa using List.all_eq_true.1 hall t hm)⟩)
    (by kernel_rfl)

#print axioms metaMerges_holds

end Go.Proofs.YtecffghcpknmjaaDoor
