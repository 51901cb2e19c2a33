/- The walk of chain.Under; its conditions stand in the theorems. -/
import Derived.Test.YtnhophaeimpkkaaT12
import Derived.Test.YtnhophaeimpkkaaOwn2
import Derived.WalkKit
import Derived.WalkSpells
import Derived.WalkLawsBesides
namespace Go.Proofs.Ytnhophaeimpkkaa
open Go Go.RowKit

/-- The post of a function that makes a list of dependencies of its own. -/
def RetDeps (ds : List Dep) (w : World) (e : Ending) (w' : World) : Prop :=
  ∃ v cur, e = .returned v ∧ Owns w.heap.size 34 8 depC w' v cur ∧ cur.map (·.1) = ds ∧ (∀ p ∈ cur, Owns w.heap.size 66 2 idC w' p.2 p.1.excl) ∧ Below w.heap.size w w'

theorem underL_ok {w : World} {l more : List (Dep × Value)} (h1 : ∀ p ∈ l, DepOk w p) (h2 : ∀ p ∈ more, DepOk w p) : ∀ p ∈ underL l more, DepOk w p := by
  intro p hp
  rcases List.mem_append.1 hp with h | h
  · exact h1 p h
  · exact h2 p (List.mem_filter.1 h).1

def blockOf (v : Value) : Nat := match v.ownBlock with | some g => g | none => 0

/-- What the loop over the exclusions has done so far. -/
structure Cloned (w wr : World) (v : Value) (L cur : List (Dep × Value)) (k : Nat) : Prop where
  below : Below w.heap.size w wr
  own : Owns w.heap.size 34 8 depC wr v cur
  len : cur.length = L.length
  fst : cur.map (·.1) = L.map (·.1)
  done : ∀ j p, cur[j]? = some p → j < k → Owns (blockOf v + 1) 66 2 idC wr p.2 p.1.excl
  todo : ∀ j p, cur[j]? = some p → k ≤ j → L[j]? = some p
  lt : blockOf v < wr.heap.size ∨ L = []

set_option maxRecDepth 100000 in
set_option maxHeartbeats 400000 in
theorem chainUnder_any (l more : List (Dep × Value)) (v u : Value) (w : World) (hs : SliceOf 8 depC w v l) (hok : ∀ p ∈ l, DepOk w p) (hm' : SliceOf 8 depC w u more) (hmo : ∀ p ∈ more, DepOk w p)
    (hl : Hid ((l.length + more.length) * 120 ≤ 140737488355328)) (hx : ∀ p ∈ underL l more, p.1.excl.length * 32 ≤ 140737488355328) :
    Calls Try.prog 18 #[v, u] w (RetDeps ((underL l more).map (·.1)) w) := by
  have hokU := underL_ok hok hmo
  have hUl := underL_len l more
  have hUl2 : (underL l more).length ≤ 140737488355328 := by have := hl.out; omega
  have hU := under_any l more v u w hs hok hm' hmo hl
  clear hs hok hm' hmo hl hUl
  generalize underL l more = L at *
  have HU := Lib.hid hU
  clear hU
  go_enter Try.func18, Try.ntmps18
  go_wp2_with fail
  refine HU.out.mono ?_
  intro e w1 hR
  obtain ⟨v1, rfl, hown, hb1⟩ := hR
  clear HU
  obtain ⟨ao, cap, rfl⟩ := hown.shape
  have hlt0 : blockOf (.slice ao L.length cap) < w1.heap.size ∨ L = [] := by
    rcases hown.2 with ⟨he, h0⟩ | ⟨g, cap', cur, he, -, hg, -⟩
    · exact .inr (List.eq_nil_of_length_eq_zero h0)
    · cases he; exact .inl (Array.getElem?_eq_some_iff.1 hg).1
  go_wp2
  go_loopw [12] (fun i wr => ∃ k cur, k ≤ L.length ∧ i = .int .i64 (k : Nat) ∧ Cloned w wr (.slice ao L.length cap) L cur k) (fun i _ => L.length - (intOf i).toNat)
  case atStart => exact ⟨0, L, Nat.zero_le _, rfl, ⟨hb1, hown, rfl, rfl, fun j p _ h => absurd h (Nat.not_lt_zero _), fun j p h _ => h, hlt0⟩⟩
  case round =>
    clear hb1 hown hlt0
    obtain ⟨k, cur, hk, rfl, C⟩ := hrel
    by_cases hlt : k < L.length
    · have hlc : k < cur.length := by rw [C.len]; exact hlt
      have hck : cur[k]? = some cur[k] := by simp [hlc]
      have hLk := C.todo k _ hck (Nat.le_refl _)
      have hmem : cur[k] ∈ L := List.mem_of_getElem? hLk
      have hok0 := hokU _ hmem
      have hxb := Lib.hid (hx _ hmem)
      have hown : Owns w.heap.size 34 8 depC wr (.slice ao cur.length cap) cur := by rw [C.len]; exact C.own
      have hsz := C.below.size
      generalize hq : cur[k] = q at *
      obtain ⟨qd, qx⟩ := q
      obtain ⟨ao4, cap4, rfl⟩ := hok0.shape
      obtain ⟨g, rfl, hg1, hg2, hcell, hfree, hcells, hset⟩ := own_store (j := 7) depC_len hown hck (by decide)
      have c7 : wr.cell? ⟨g, k * 8 + 7, none⟩ = some (.slice ao4 qd.excl.length cap4) := hcell
      have hdk := hok0.below C.below
      have HS := Lib.hid hset
      have HC := Lib.hid C
      have Hck := Lib.hid hck
      clear hcell hcells hset hown hok0 hLk hmem hokU hx hck C
      go_wp2_with fail
      refine (cloneId_any qd.excl _ wr hdk hxb.out).mono ?_
      intro e w2 hR
      obtain ⟨v2, rfl, hown2, hb2⟩ := hR
      obtain ⟨ao5, cap5, rfl⟩ := hown2.shape
      have c7' : w2.cell? ⟨g, k * 8 + 7, none⟩ = some (.slice ao4 qd.excl.length cap4) := (hb2.cell (by exact hg2)).trans c7
      have hf' : w2.frozen? ⟨g, k * 8 + 7, none⟩ = false := (hb2.frozen (by exact hg2)).trans hfree
      go_wp2
      go_roundw
      case rel =>
        have C := HC.out
        have hown3 : Owns w.heap.size 34 8 depC w2 (.slice (some ⟨g, 0, none⟩) cur.length cap) cur := by
          have := C.own.below hb2
          rw [C.len]; exact this
        obtain ⟨g', he, -, -, -, -, -, hset'⟩ := own_store (j := 7) depC_len hown3 Hck.out (by decide)
        cases he
        have hnew := hset' (.slice ao5 qd.excl.length cap5) (qd, .slice ao5 qd.excl.length cap5) rfl
        have hg3 : g < w2.heap.size := Nat.lt_of_lt_of_le hg2 hb2.size
        refine ⟨k + 1, cur.set k (qd, .slice ao5 qd.excl.length cap5), hlt, by go_num, ⟨?_, ?_, ?_, ?_, ?_, ?_, ?_⟩⟩
        · exact (C.below.trans (hb2.mono hsz)).setCell hg1 _
        · rw [C.len] at hnew; exact hnew
        · rw [List.length_set, C.len]
        · rw [List.map_set, C.fst]
          apply List.ext_getElem?
          intro i
          rw [List.getElem?_set]
          split
          · rename_i hki
            subst hki
            have := congrArg (·[k]?) C.fst
            simp only [List.getElem?_map, Hck.out] at this
            rw [if_pos (by simpa using hlt), List.getElem?_map, ← this]; rfl
          · rfl
        · intro j p hp hj
          rw [List.getElem?_set] at hp
          split at hp
          · rename_i hkj
            cases hp
            refine (hown2.base_mono (base' := g + 1) hg2).kept (setCell_grown w2 g _ _) ?_
            rcases hown2.2 with ⟨he, -⟩ | ⟨g5, cap6, cur6, he, hge, -⟩
            · simp only [Value.slice.injEq] at he; obtain ⟨rfl, -⟩ := he; exact .inl rfl
            · simp only [Value.slice.injEq] at he; obtain ⟨rfl, -⟩ := he; right; simp [Value.ownBlock]; omega
          · rename_i hkj
            have h1 := (C.done j p hp (by omega)).below hb2
            refine h1.kept (setCell_grown w2 g _ _) ?_
            cases hvb : p.2.ownBlock with
            | none => exact .inl rfl
            | some b =>
              right
              have := (h1.lt b hvb).1
              simp only [blockOf, Value.ownBlock] at this
              simp; omega
        · intro j p hp hj
          rw [List.getElem?_set_ne (by omega)] at hp
          exact C.todo j p hp (by omega)
        · left
          simp only [blockOf, Value.ownBlock]
          simpa [World.setCell] using hg3
      case measure => simp [intOf]; omega
    · go_wp2
      go_ret
      refine ⟨_, cur, rfl, C.own, C.fst, fun p hp => ?_, C.below⟩
      obtain ⟨j, hj, rfl⟩ := List.mem_iff_getElem.1 hp
      refine (C.done j _ (by simp [hj]) (by have := C.len; omega)).base_mono ?_
      rcases C.own.2 with ⟨-, h0⟩ | ⟨g, cap', cur', he, hg, -⟩
      · omega
      · simp only [Value.slice.injEq] at he
        obtain ⟨rfl, -⟩ := he
        simp only [blockOf, Value.ownBlock]; omega

end Go.Proofs.Ytnhophaeimpkkaa
