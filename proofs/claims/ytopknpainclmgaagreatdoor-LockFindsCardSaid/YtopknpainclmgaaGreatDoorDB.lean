/- A strings.Builder: its check, its writing, its frame; the conditions stand in the theorems. -/
import Derived.Test.YtopknpainclmgaaGreatDoorProg
import Derived.Test.YtopknpainclmgaaGreatDoorL0
import Derived.Test.YtopknpainclmgaaGreatDoorOwn2
import Derived.Shelf.Strings.BuilderX
import Derived.Lib.Walk
import Derived.Lib.Builder
import Derived.Lib.AppendStr
import Derived.Lib.UnsafeStr
import Derived.WalkKit
import Derived.WalkSpells
import Derived.Laws.Externs
namespace Go.Proofs.YtopknpainclmgaaGreatDoor
open Go Go.RowKit

theorem info_byte : (Tryz.prog.info? 5).map (fun i => (i.zero, i.size, i.bytes)) = some (some (.int .u8 0), 1, 1) := by kernel_rfl
theorem size_builder : (Tryz.prog.info? 82).map (·.size) = some 2 := by kernel_rfl
set_option maxHeartbeats 1000000 in
set_option maxRecDepth 100000 in
theorem copyCheck_used (b : Nat) (w : World) (h0 : w.cell? ⟨b, 0, none⟩ = some (.pointer (some ⟨b, 0, none⟩))) :
    Calls Tryz.prog 55 #[.pointer (some ⟨b, 0, none⟩)] w fun e w' => e = .returned (.tuple #[]) ∧ w' = w := by
  obtain ⟨j, hj, _⟩ := Option.map_eq_some_iff.1 size_builder
  go_enter Tryz.func55, Tryz.ntmps55
  go_wp2
  rw [Lib.run_neq_ptr_same w _ Tryz.underlying79 hj]
  go_wp2
  go_end0
  exact ⟨rfl, rfl⟩
set_option maxHeartbeats 1000000 in
set_option maxRecDepth 100000 in
theorem copyCheck_fresh (b : Nat) (w : World) (h0 : w.cell? ⟨b, 0, none⟩ = some (.pointer none)) (hsh : w.shape? b = some (82, 2)) (hfz : w.frozen? ⟨b, 0, none⟩ = false) :
    Calls Tryz.prog 55 #[.pointer (some ⟨b, 0, none⟩)] w fun e w' => e = .returned (.tuple #[]) ∧ w' = w.setCell ⟨b, 0, none⟩ (.pointer (some ⟨b, 0, none⟩)) := by
  obtain ⟨j, hj, hjs⟩ := Option.map_eq_some_iff.1 size_builder
  go_enter Tryz.func55, Tryz.ntmps55
  go_wp2
  rw [Lib.run_to_unsafe w ⟨b, 0, none⟩ Tryz.underlying79 Tryz.underlying176 hj (by rw [hjs]; decide) hsh (Nat.zero_lt_succ 1)]
  simp only [Result.andThen]
  rw [Oper.upon_value]
  go_wp2
  rw [run_callFunc_extern Tryz.func81 (by kernel_rfl) (by kernel_rfl) (by kernel_rfl) (e := Extern.AbiNoEscape.same) (by kernel_rfl)]
  rw [Lib.run_noEscape]
  simp only [Result.andThen]
  rw [Oper.upon_value]
  go_wp2
  rw [Lib.run_from_unsafe w ⟨b, 0, none⟩ Tryz.underlying176 Tryz.underlying79 hj hsh (by kernel_rfl)]
  simp only [Result.andThen]
  rw [Oper.upon_value]
  go_wp2
  go_end0
  exact ⟨rfl, rfl⟩
theorem byteCells_app (l : Bs) (t : Bs) : Lib.byteCells (l ++ t) = Lib.byteCells l ++ Lib.strCells (bs t) := by
  simp [Lib.byteCells, Lib.strCells, bs]
theorem byteCells_len (l : Bs) : (Lib.byteCells l).length = l.length := by simp [Lib.byteCells]
theorem str_cells {s : S} {l : Bs} (h : s = bs l) (cs : Bs) : Lib.byteCells cs ++ Lib.strCells s = Lib.byteCells (cs ++ l) := by rw [h, byteCells_app]
/-- A builder at block b, its letters in blocks from R on. -/
structure Bld (R b : Nat) (cs : List Value) (w : World) : Prop where
  ex : ∃ p v, (p = .pointer none ∨ p = .pointer (some ⟨b, 0, none⟩)) ∧ w.heap[b]? = some (.cells #[p, v] 82 (0, 0)) ∧ w.ownsRow R 5 1 v cs.length cs ∧ v.ownBlock ≠ some b
  room : R ≤ w.heap.size
/-- Nothing below R has turned, but for block b. -/
structure Kept (R b : Nat) (w w' : World) : Prop where
  os : w'.os = w.os
  tape : w'.tape = w.tape
  output : w'.output = w.output
  size : w.heap.size ≤ w'.heap.size
  block : ∀ g, g < R → g ≠ b → w'.heap[g]? = w.heap[g]?
  typed : ∀ g C T f, g ≠ b → T ≠ 5 → w.heap[g]? = some (.cells C T f) → w'.heap[g]? = some (.cells C T f)
theorem Kept.refl (R b : Nat) (w : World) : Kept R b w w := ⟨rfl, rfl, rfl, Nat.le_refl _, fun _ _ _ => rfl, fun _ _ _ _ _ _ h => h⟩
theorem Kept.trans {R b : Nat} {w w' w'' : World} (h : Kept R b w w') (h' : Kept R b w' w'') : Kept R b w w'' :=
  ⟨h'.os.trans h.os, h'.tape.trans h.tape, h'.output.trans h.output, Nat.le_trans h.size h'.size, fun g hg hb => (h'.block g hg hb).trans (h.block g hg hb), fun g C T f hb hT hg => h'.typed g C T f hb hT (h.typed g C T f hb hT hg)⟩
theorem Kept.of_below {R b : Nat} {w w' : World} (h : Below w.heap.size w w') (hR : R ≤ w.heap.size) : Kept R b w w' :=
  ⟨h.os, h.tape, h.output, h.size, fun g hg _ => h.block g (by omega), fun g C T f _ _ hg => (h.block g (Array.getElem?_eq_some_iff.1 hg).1).trans hg⟩
/-- A variable of the call's own, of another type than bytes. -/
theorem Kept.var {R b : Nat} {w w' : World} (h : Kept R b w w') {g : Nat} {C : Array Value} {T : TypeId} {f : Nat × Nat} (hb : g ≠ b) (hT : T ≠ 5) (hg : w.heap[g]? = some (.cells C T f)) (o : Nat) : w'.cell? ⟨g, o, none⟩ = w.cell? ⟨g, o, none⟩ :=
  World.cell?_of_block ((h.typed g C T f hb hT hg).trans hg.symm)
theorem Kept.below {R b B : Nat} {w w' : World} (h : Kept R b w w') (hB : B ≤ R) (hb : B ≤ b) : Below B w w' := ⟨h.os, h.tape, h.output, h.size, fun g hg => h.block g (by omega) (by omega)⟩
theorem Kept.cell {R b : Nat} {w w' : World} (h : Kept R b w w') {g o : Nat} (hg : g < R) (hb : g ≠ b) : w'.cell? ⟨g, o, none⟩ = w.cell? ⟨g, o, none⟩ := World.cell?_of_block (h.block g hg hb)
theorem Bld.lt {R b : Nat} {cs : List Value} {w : World} (h : Bld R b cs w) : b < w.heap.size := by obtain ⟨p, v, h1, h2, -⟩ := h.ex; exact (Array.getElem?_eq_some_iff.1 h2).1
theorem Bld.isB {R b : Nat} {cs : List Value} {w : World} (h : Bld R b cs w) (B : Nat) (h1 : B ≤ R) (h2 : B ≤ b) : Lib.IsBuilder 82 5 B b cs w := by
  obtain ⟨p, v, hp, hb, ho, hn⟩ := h.ex
  have ho' : w.ownsRow B 5 1 v cs.length cs := by
    refine ⟨ho.1, ?_⟩
    rcases ho.2 with h | ⟨g, cap, cur, e1, e2, e3⟩
    · exact .inl h
    · exact .inr ⟨g, cap, cur, e1, Nat.le_trans h1 e2, e3⟩
  rcases hp with rfl | rfl
  · exact .inl ⟨h2, v, hb, ho', hn⟩
  · exact .inr ⟨h2, v, hb, ho', hn⟩
/-- A fresh builder, and what was made behind it. -/
theorem Bld.fresh (w w' : World) (hb : Below (w.heap.size + 1) (w.alloc (.cells #[.pointer none, .slice none 0 0] 82)) w') : Bld w'.heap.size w.heap.size [] w' := by
  refine ⟨⟨_, _, .inl rfl, (hb.block _ (Nat.lt_succ_self _)).trans (heap_alloc_new w _), World.ownsRow_nil _ _ _ _, by simp [Value.ownBlock]⟩, Nat.le_refl _⟩
theorem Bld.keep {R b : Nat} {cs : List Value} {w w' : World} (h : Bld R b cs w) (hb : Below w.heap.size w w') : Bld R b cs w' := by
  have hlt := h.lt
  obtain ⟨p, v, h1, h2, h3, h4⟩ := h.ex
  exact ⟨⟨p, v, h1, (hb.block b hlt).trans h2, World.ownsRow.kept h3 (row := none) ⟨hb.os, hb.tape, hb.output, hb.size, fun k hk _ => hb.block k hk⟩ (by cases v.ownBlock <;> simp), h4⟩, Nat.le_trans h.room hb.size⟩
theorem heap_set_other (w : World) (b j k : Nat) (u : Value) (h : k ≠ b) : (w.setCell ⟨b, j, none⟩ u).heap[k]? = w.heap[k]? := Below.heap_setCell w ⟨b, j, none⟩ u k (fun e => h (by simp [e]))
theorem put_bld {R b : Nat} {v v' : Value} {cs : List Value} {w : World} (hown : w.ownsRow R 5 1 v' cs.length cs) (hb : w.heap[b]? = some (.cells #[.pointer (some ⟨b, 0, none⟩), v] 82 (0, 0))) :
    ∃ p u, (p = .pointer none ∨ p = .pointer (some ⟨b, 0, none⟩)) ∧ (w.setCell ⟨b, 1, none⟩ v').heap[b]? = some (.cells #[p, u] 82 (0, 0)) ∧ (w.setCell ⟨b, 1, none⟩ v').ownsRow R 5 1 u cs.length cs ∧ u.ownBlock ≠ some b := by
  have hne := Lib.ownBlock_ne hown hb (by decide)
  refine ⟨_, v', .inr rfl, ?_, ?_, hne⟩
  · simp [World.setCell, Array.getElem?_modify, hb]
  · exact hown.kept (row := some b) ⟨rfl, rfl, rfl, by simp [World.setCell], fun k _ hk => Below.heap_setCell _ _ _ _ (fun e => hk (by simp [e]))⟩ (Or.inr hne)
/-- What copyCheck leaves. -/
structure Checked1 (R b : Nat) (cs : List Value) (w w' : World) : Prop where
  kept : Kept R b w w'
  at_ : ∃ v, w'.heap[b]? = some (.cells #[.pointer (some ⟨b, 0, none⟩), v] 82 (0, 0)) ∧ w'.ownsRow R 5 1 v cs.length cs ∧ v.ownBlock ≠ some b
theorem copyCheck_bld (R b : Nat) (cs : List Value) (w : World) (h : Bld R b cs w) :
    Calls Tryz.prog 55 #[.pointer (some ⟨b, 0, none⟩)] w fun e w' => e = .returned (.tuple #[]) ∧ Checked1 R b cs w w' := by
  obtain ⟨p, v, h1, h2, h3, h4⟩ := h.ex
  have hB0 := h.isB 0 (Nat.zero_le _) (Nat.zero_le _)
  rcases h1 with rfl | rfl
  · have h30 : w.ownsRow 0 5 1 v cs.length cs := by
      refine ⟨h3.1, ?_⟩
      rcases h3.2 with h | ⟨g, cap, cur, e1, e2, e3⟩
      · exact .inl h
      · exact .inr ⟨g, cap, cur, e1, Nat.zero_le _, e3⟩
    have hB : Lib.BuilderAt 82 5 0 b (.pointer none) cs w := ⟨Nat.zero_le _, v, h2, h30, h4⟩
    refine (copyCheck_fresh b w hB.cell0 hB.shape hB.frozen0).mono ?_
    rintro e w' ⟨rfl, rfl⟩
    have hu := hB.used (.pointer (some ⟨b, 0, none⟩))
    obtain ⟨-, v', g1, g2, g3⟩ := hu
    have hv : v' = v := by
      have e1 : (w.setCell ⟨b, 0, none⟩ (.pointer (some ⟨b, 0, none⟩))).cell? ⟨b, 1, none⟩ = some v' := by rw [Lib.cell_of_heap g1]; rfl
      rw [World.cell?_setCell_other _ _ _ _ (by simp)] at e1
      have e2 : w.cell? ⟨b, 1, none⟩ = some v := by rw [Lib.cell_of_heap h2]; rfl
      rw [e2] at e1
      cases e1; rfl
    subst hv
    refine ⟨rfl, ⟨rfl, rfl, rfl, by simp [World.setCell], fun g _ hg => heap_set_other w b 0 g _ hg, fun g C T f hb _ hg => (heap_set_other w b 0 g _ hb).trans hg⟩, v', g1, ?_, h4⟩
    refine World.ownsRow.kept h3 (setCell_grown w b 0 _) ?_
    cases hv : v'.ownBlock with
    | none => exact .inl rfl
    | some k => right; rw [← hv]; exact h4
  · have hB : Lib.BuilderAt 82 5 0 b (.pointer (some ⟨b, 0, none⟩)) cs w := by
      rcases hB0 with h | h
      · exfalso
        have e1 := h.cell0
        rw [Lib.cell_of_heap h2] at e1
        simp at e1
      · exact h
    refine (copyCheck_used b w hB.cell0).mono ?_
    rintro e w' ⟨rfl, rfl⟩
    exact ⟨rfl, Kept.refl _ _ _, v, h2, h3, h4⟩
set_option maxHeartbeats 2000000 in
set_option maxRecDepth 100000 in
theorem writeString_bld (R b : Nat) (cs : List Value) (s : ByteArray) (w : World) (h : Bld R b cs w) (hlen : cs.length + s.size ≤ 140737488355328) :
    Calls Tryz.prog 31 #[.pointer (some ⟨b, 0, none⟩), .string s] w fun e w' => e = .returned (.tuple #[.int .i64 s.size, .nilIface]) ∧ (Bld R b (cs ++ Lib.strCells s) w' ∧ Kept R b w w') := by
  obtain ⟨i0, hi, hz0, hz1, hz2⟩ := info_parts info_byte
  have hroom := h.room
  go_enter Tryz.func31, Tryz.ntmps31
  go_wp2_with (go_at_call 55; refine (copyCheck_bld R b cs _ h).mono ?_)
  rintro e w1 ⟨rfl, hk1, v, hbk, hown, hne⟩
  have c0 : w1.cell? ⟨b, 0, none⟩ = some (.pointer (some ⟨b, 0, none⟩)) := by rw [Lib.cell_of_heap hbk]; rfl
  have c1 : w1.cell? ⟨b, 1, none⟩ = some v := by rw [Lib.cell_of_heap hbk]; rfl
  go_wp2_with (at_builtin; refine Lib.wpList_append_own_string _ rfl _ _ 80 9 rfl R 5 i0 Tryz.underlying80 Tryz.underlying9 hi hz0 hz1 hz2 _ _ _ rfl hown s rfl ?c3 ?c4 ?c5 ?_)
  case c3 => unfold maxLen; omega
  case c4 => omega
  case c5 => have := hk1.size; omega
  intro v' w2 hown' hgrow _
  have hlt : b < w1.heap.size := by
    rcases Nat.lt_or_ge b w1.heap.size with h' | h'
    · exact h'
    · simp [Array.getElem?_eq_none h'] at hbk
  have hb2 : w2.heap[b]? = some (.cells #[.pointer (some ⟨b, 0, none⟩), v] 82 (0, 0)) := by
    rw [hgrow.block b hlt (fun e => hne e.symm)]
    exact hbk
  have d0 : w2.cell? ⟨b, 0, none⟩ = some (.pointer (some ⟨b, 0, none⟩)) := by rw [Lib.cell_of_heap hb2]; rfl
  have d1 : w2.cell? ⟨b, 1, none⟩ = some v := by rw [Lib.cell_of_heap hb2]; rfl
  have f1 : w2.frozen? ⟨b, 1, none⟩ = false := Lib.frozen_of_heap hb2 1
  obtain ⟨ao, n', cap, rfl⟩ : ∃ ao n' cap, v' = .slice ao n' cap := by
    rcases hown'.2 with ⟨hv, _⟩ | ⟨g, cap, cur, hv, _⟩
    · exact ⟨_, _, _, hv⟩
    · exact ⟨_, _, _, hv⟩
  go_wp2
  go_ret2
  have hk2 : Kept R b w1 w2 := ⟨hgrow.os, hgrow.tape, hgrow.output, hgrow.size, fun g hg hgb => hgrow.block g (by have := hk1.size; omega) (fun e => by have := (hown.lt g e.symm).1; omega), fun g C T f _ hT hg => (hgrow.block g (Array.getElem?_eq_some_iff.1 hg).1 (fun e => (Lib.ownBlock_ne hown hg hT) e.symm)).trans hg⟩
  have hk3 : Kept R b w2 (w2.setCell ⟨b, 1, none⟩ (.slice ao n' cap)) := ⟨rfl, rfl, rfl, by simp [World.setCell], fun g _ hg => heap_set_other w2 b 1 g _ hg, fun g C T f hb _ hg => (heap_set_other w2 b 1 g _ hb).trans hg⟩
  have hks := (hk1.trans hk2).trans hk3
  have hown2 : w2.ownsRow R 5 1 (.slice ao n' cap) (cs ++ Lib.strCells s).length (cs ++ Lib.strCells s) := by simpa [Lib.strCells_length] using hown'
  exact ⟨rfl, ⟨put_bld hown2 hb2, Nat.le_trans hroom hks.size⟩, hks⟩

end Go.Proofs.YtopknpainclmgaaGreatDoor
