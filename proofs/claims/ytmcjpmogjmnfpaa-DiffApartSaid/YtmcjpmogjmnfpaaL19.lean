/- Walks: the document's example; no conditions. -/
import Derived.Test.YtmcjpmogjmnfpaaL18
import Derived.Test.YtmcjpmogjmnfpaaL10
import Derived.Test.YtmcjpmogjmnfpaaLOpen
namespace Go.Proofs.Ytmcjpmogjmnfpaa
open Go Go.RowKit

def pinOf (a v : S) : Pin := ⟨⟨⟨#[103]⟩, a, ⟨#[106, 97, 114]⟩, ⟨#[]⟩⟩, v, 1⟩
def g1 : Gav := ⟨⟨#[103]⟩, ⟨#[97]⟩, ⟨#[49]⟩⟩
def lockA : Lock := ⟨g1, [pinOf ⟨#[98]⟩ ⟨#[49]⟩]⟩
def lockB : Lock := ⟨g1, [pinOf ⟨#[98]⟩ ⟨#[50]⟩, pinOf ⟨#[99]⟩ ⟨#[49]⟩]⟩
set_option maxRecDepth 100000 in
theorem lawPin_any (a v : S) (w : World) : Calls Try.prog 21 #[.string a, .string v] w fun e w' => e = .returned (.agg #[.string ⟨#[103]⟩, .string a, .string ⟨#[106, 97, 114]⟩, .string ⟨#[]⟩, .string v, .int .i64 1]) ∧ w' = w.alloc (.cells #[.string ⟨#[103]⟩, .string a, .string ⟨#[106, 97, 114]⟩, .string ⟨#[]⟩, .string v, .int .i64 1] 44) := by
  go_enter Try.func21, Try.ntmps21
  go_wp2
  refine bodyPost_ret (results_cell_box rfl _ _ w.heap.size (pinC (pinOf a v)) rfl (Box.new _ (pinC (pinOf a v)) _ _ rfl) Try.underlying44 rfl size_pinF) rfl ?_
  exact ⟨rfl, rfl⟩
theorem lt_alloc (w : World) (o : Obj) : w.heap.size < (w.alloc o).heap.size := by simp
/-- A lock in memory, to be read. -/
def LockAt (w : World) (b : Nat) (l : Lock) : Prop := ∃ ao cap, b < w.heap.size ∧ (∀ j u, (lockC l (.slice ao l.pins.length cap))[j]? = some u → w.cell? ⟨b, j, none⟩ = some u) ∧ SliceOf 6 pinC w (.slice ao l.pins.length cap) l.pins
theorem LockAt.below {w w' : World} {b : Nat} {l : Lock} (h : LockAt w b l) (hb : Below w.heap.size w w') : LockAt w' b l := by
  obtain ⟨ao, cap, h0, h1, h2⟩ := h
  exact ⟨ao, cap, Nat.lt_of_lt_of_le h0 hb.size, fun j u hu => (hb.cell (by exact h0)).trans (h1 j u hu), h2.below hb⟩
theorem lockA_sm : lockSm lockA := by
  refine ⟨⟨by decide, by decide, by decide⟩, fun p hp => ?_⟩
  simp only [lockA, List.mem_cons, List.not_mem_nil, or_false] at hp
  subst hp
  exact ⟨⟨by decide, by decide, by decide, by decide⟩, by decide⟩
theorem lockB_sm : lockSm lockB := by
  refine ⟨⟨by decide, by decide, by decide⟩, fun p hp => ?_⟩
  simp only [lockB, List.mem_cons, List.not_mem_nil, or_false] at hp
  rcases hp with rfl | rfl <;> exact ⟨⟨by decide, by decide, by decide, by decide⟩, by decide⟩
def listE : List Edit := [editOf (pinOf ⟨#[98]⟩ ⟨#[49]⟩).key (some (pinOf ⟨#[98]⟩ ⟨#[49]⟩)) (some (pinOf ⟨#[98]⟩ ⟨#[50]⟩)), editOf (pinOf ⟨#[99]⟩ ⟨#[49]⟩).key none (some (pinOf ⟨#[99]⟩ ⟨#[49]⟩))]
theorem editsAB : editsR lockA lockB = listE := by
  have h : (lockMay lockA && lockMay lockB) = true := by kernel_rfl
  unfold editsR
  rw [if_pos h]
  unfold editsP
  have h1 : cmpK (pinOf ⟨#[98]⟩ ⟨#[49]⟩).key (pinOf ⟨#[98]⟩ ⟨#[50]⟩).key = 0 := by kernel_rfl
  have e1 : lockA.pins = [pinOf ⟨#[98]⟩ ⟨#[49]⟩] := rfl
  have e2 : lockB.pins = [pinOf ⟨#[98]⟩ ⟨#[50]⟩, pinOf ⟨#[99]⟩ ⟨#[49]⟩] := rfl
  rw [e1, e2, mergeP, h1, if_neg (by decide), if_neg (by decide), mergeP, mergeP]
  have f1 : oneE (pinOf ⟨#[98]⟩ ⟨#[49]⟩).key (some (pinOf ⟨#[98]⟩ ⟨#[49]⟩)) (some (pinOf ⟨#[98]⟩ ⟨#[50]⟩)) = [editOf (pinOf ⟨#[98]⟩ ⟨#[49]⟩).key (some (pinOf ⟨#[98]⟩ ⟨#[49]⟩)) (some (pinOf ⟨#[98]⟩ ⟨#[50]⟩))] := if_pos (.inr (.inr (by decide)))
  have f2 : oneE (pinOf ⟨#[99]⟩ ⟨#[49]⟩).key none (some (pinOf ⟨#[99]⟩ ⟨#[49]⟩)) = [editOf (pinOf ⟨#[99]⟩ ⟨#[49]⟩).key none (some (pinOf ⟨#[99]⟩ ⟨#[49]⟩))] := if_pos (.inl rfl)
  rw [f1, f2]; rfl
theorem listE_ok : ∀ e ∈ listE, TellOk e := by
  intro e he
  simp only [listE, List.mem_cons, List.not_mem_nil, or_false] at he
  rcases he with rfl | rfl <;> exact ⟨rfl, ⟨by decide, by decide, by decide, by decide⟩, by decide, by decide⟩
def line1 : S := ⟨#[126, 32, 103, 58, 98, 58, 106, 97, 114, 32, 49, 32, 99, 111, 109, 112, 105, 108, 101, 32, 116, 111, 32, 50, 32, 99, 111, 109, 112, 105, 108, 101]⟩
def line2 : S := ⟨#[43, 32, 103, 58, 99, 58, 106, 97, 114, 32, 49, 32, 99, 111, 109, 112, 105, 108, 101]⟩
theorem tellAB : (listE.map fun e => bs (tellE e)) = [line1, line2] := by kernel_rfl
theorem lock_A0 (W : World) : LockAt (((W.alloc (.cells #[.string ⟨#[103]⟩, .string ⟨#[97]⟩, .string ⟨#[49]⟩, .slice (some ⟨W.heap.size + 1 + 1, 0, none⟩) 1 1] 26)).alloc (.cells #[.string ⟨#[103]⟩, .string ⟨#[98]⟩, .string ⟨#[106, 97, 114]⟩, .string ⟨#[]⟩, .string ⟨#[49]⟩, .int .i64 1] 44)).alloc (.cells #[.string ⟨#[103]⟩, .string ⟨#[98]⟩, .string ⟨#[106, 97, 114]⟩, .string ⟨#[]⟩, .string ⟨#[49]⟩, .int .i64 1] 44)).drew (W.heap.size) lockA ∧ Below W.heap.size W (((W.alloc (.cells #[.string ⟨#[103]⟩, .string ⟨#[97]⟩, .string ⟨#[49]⟩, .slice (some ⟨W.heap.size + 1 + 1, 0, none⟩) 1 1] 26)).alloc (.cells #[.string ⟨#[103]⟩, .string ⟨#[98]⟩, .string ⟨#[106, 97, 114]⟩, .string ⟨#[]⟩, .string ⟨#[49]⟩, .int .i64 1] 44)).alloc (.cells #[.string ⟨#[103]⟩, .string ⟨#[98]⟩, .string ⟨#[106, 97, 114]⟩, .string ⟨#[]⟩, .string ⟨#[49]⟩, .int .i64 1] 44)).drew := by
  have hx : Box (W.alloc (.cells #[.string ⟨#[103]⟩, .string ⟨#[97]⟩, .string ⟨#[49]⟩, .slice (some ⟨W.heap.size + 1 + 1, 0, none⟩) 1 1] 26)) (W.heap.size) (lockC lockA (.slice (some ⟨W.heap.size + 1 + 1, 0, none⟩) 1 1)) := Box.new _ (lockC lockA (.slice (some ⟨W.heap.size + 1 + 1, 0, none⟩) 1 1)) _ _ (rfl)
  have hs : SliceOf 6 pinC (((W.alloc (.cells #[.string ⟨#[103]⟩, .string ⟨#[97]⟩, .string ⟨#[49]⟩, .slice (some ⟨W.heap.size + 1 + 1, 0, none⟩) 1 1] 26)).alloc (.cells #[.string ⟨#[103]⟩, .string ⟨#[98]⟩, .string ⟨#[106, 97, 114]⟩, .string ⟨#[]⟩, .string ⟨#[49]⟩, .int .i64 1] 44)).alloc (.cells #[.string ⟨#[103]⟩, .string ⟨#[98]⟩, .string ⟨#[106, 97, 114]⟩, .string ⟨#[]⟩, .string ⟨#[49]⟩, .int .i64 1] 44)) (.slice (some ⟨W.heap.size + 1 + 1, 0, none⟩) 1 1) lockA.pins := sliceLit pinC_len _ lockA.pins _ _ _ (by simp) rfl (by decide)
  have hX : Box (((W.alloc (.cells #[.string ⟨#[103]⟩, .string ⟨#[97]⟩, .string ⟨#[49]⟩, .slice (some ⟨W.heap.size + 1 + 1, 0, none⟩) 1 1] 26)).alloc (.cells #[.string ⟨#[103]⟩, .string ⟨#[98]⟩, .string ⟨#[106, 97, 114]⟩, .string ⟨#[]⟩, .string ⟨#[49]⟩, .int .i64 1] 44)).alloc (.cells #[.string ⟨#[103]⟩, .string ⟨#[98]⟩, .string ⟨#[106, 97, 114]⟩, .string ⟨#[]⟩, .string ⟨#[49]⟩, .int .i64 1] 44)) (W.heap.size) (lockC lockA (.slice (some ⟨W.heap.size + 1 + 1, 0, none⟩) 1 1)) := ((hx.alloc _).alloc _)
  exact ⟨⟨_, _, hX.lt, fun j u hu => hX.cell j u hu, hs.drewN 1⟩, belowN ((((Below.refl W.heap.size W).alloc (Nat.le_refl _) _).alloc (by simp) _).alloc (by simp; omega) _) 1⟩
theorem lock_A1 (W : World) : LockAt (((W.alloc (.cells #[.string ⟨#[103]⟩, .string ⟨#[98]⟩, .string ⟨#[106, 97, 114]⟩, .string ⟨#[]⟩, .string ⟨#[49]⟩, .int .i64 1] 44)).alloc (.cells #[.string ⟨#[103]⟩, .string ⟨#[97]⟩, .string ⟨#[49]⟩, .slice (some ⟨W.heap.size + 1 + 1, 0, none⟩) 1 1] 26)).alloc (.cells #[.string ⟨#[103]⟩, .string ⟨#[98]⟩, .string ⟨#[106, 97, 114]⟩, .string ⟨#[]⟩, .string ⟨#[49]⟩, .int .i64 1] 44)).drew (W.heap.size + 1) lockA ∧ Below W.heap.size W (((W.alloc (.cells #[.string ⟨#[103]⟩, .string ⟨#[98]⟩, .string ⟨#[106, 97, 114]⟩, .string ⟨#[]⟩, .string ⟨#[49]⟩, .int .i64 1] 44)).alloc (.cells #[.string ⟨#[103]⟩, .string ⟨#[97]⟩, .string ⟨#[49]⟩, .slice (some ⟨W.heap.size + 1 + 1, 0, none⟩) 1 1] 26)).alloc (.cells #[.string ⟨#[103]⟩, .string ⟨#[98]⟩, .string ⟨#[106, 97, 114]⟩, .string ⟨#[]⟩, .string ⟨#[49]⟩, .int .i64 1] 44)).drew := by
  have hx : Box ((W.alloc (.cells #[.string ⟨#[103]⟩, .string ⟨#[98]⟩, .string ⟨#[106, 97, 114]⟩, .string ⟨#[]⟩, .string ⟨#[49]⟩, .int .i64 1] 44)).alloc (.cells #[.string ⟨#[103]⟩, .string ⟨#[97]⟩, .string ⟨#[49]⟩, .slice (some ⟨W.heap.size + 1 + 1, 0, none⟩) 1 1] 26)) (W.heap.size + 1) (lockC lockA (.slice (some ⟨W.heap.size + 1 + 1, 0, none⟩) 1 1)) := Box.new _ (lockC lockA (.slice (some ⟨W.heap.size + 1 + 1, 0, none⟩) 1 1)) _ _ (by simp)
  have hs : SliceOf 6 pinC (((W.alloc (.cells #[.string ⟨#[103]⟩, .string ⟨#[98]⟩, .string ⟨#[106, 97, 114]⟩, .string ⟨#[]⟩, .string ⟨#[49]⟩, .int .i64 1] 44)).alloc (.cells #[.string ⟨#[103]⟩, .string ⟨#[97]⟩, .string ⟨#[49]⟩, .slice (some ⟨W.heap.size + 1 + 1, 0, none⟩) 1 1] 26)).alloc (.cells #[.string ⟨#[103]⟩, .string ⟨#[98]⟩, .string ⟨#[106, 97, 114]⟩, .string ⟨#[]⟩, .string ⟨#[49]⟩, .int .i64 1] 44)) (.slice (some ⟨W.heap.size + 1 + 1, 0, none⟩) 1 1) lockA.pins := sliceLit pinC_len _ lockA.pins _ _ _ (by simp) rfl (by decide)
  have hX : Box (((W.alloc (.cells #[.string ⟨#[103]⟩, .string ⟨#[98]⟩, .string ⟨#[106, 97, 114]⟩, .string ⟨#[]⟩, .string ⟨#[49]⟩, .int .i64 1] 44)).alloc (.cells #[.string ⟨#[103]⟩, .string ⟨#[97]⟩, .string ⟨#[49]⟩, .slice (some ⟨W.heap.size + 1 + 1, 0, none⟩) 1 1] 26)).alloc (.cells #[.string ⟨#[103]⟩, .string ⟨#[98]⟩, .string ⟨#[106, 97, 114]⟩, .string ⟨#[]⟩, .string ⟨#[49]⟩, .int .i64 1] 44)) (W.heap.size + 1) (lockC lockA (.slice (some ⟨W.heap.size + 1 + 1, 0, none⟩) 1 1)) := (hx.alloc _)
  exact ⟨⟨_, _, hX.lt, fun j u hu => hX.cell j u hu, hs.drewN 1⟩, belowN ((((Below.refl W.heap.size W).alloc (Nat.le_refl _) _).alloc (by simp) _).alloc (by simp; omega) _) 1⟩
theorem lock_A2 (W : World) : LockAt (((W.alloc (.cells #[.string ⟨#[103]⟩, .string ⟨#[98]⟩, .string ⟨#[106, 97, 114]⟩, .string ⟨#[]⟩, .string ⟨#[49]⟩, .int .i64 1] 44)).alloc (.cells #[.string ⟨#[103]⟩, .string ⟨#[98]⟩, .string ⟨#[106, 97, 114]⟩, .string ⟨#[]⟩, .string ⟨#[49]⟩, .int .i64 1] 44)).alloc (.cells #[.string ⟨#[103]⟩, .string ⟨#[97]⟩, .string ⟨#[49]⟩, .slice (some ⟨W.heap.size + 1, 0, none⟩) 1 1] 26)).drew (W.heap.size + 1 + 1) lockA ∧ Below W.heap.size W (((W.alloc (.cells #[.string ⟨#[103]⟩, .string ⟨#[98]⟩, .string ⟨#[106, 97, 114]⟩, .string ⟨#[]⟩, .string ⟨#[49]⟩, .int .i64 1] 44)).alloc (.cells #[.string ⟨#[103]⟩, .string ⟨#[98]⟩, .string ⟨#[106, 97, 114]⟩, .string ⟨#[]⟩, .string ⟨#[49]⟩, .int .i64 1] 44)).alloc (.cells #[.string ⟨#[103]⟩, .string ⟨#[97]⟩, .string ⟨#[49]⟩, .slice (some ⟨W.heap.size + 1, 0, none⟩) 1 1] 26)).drew := by
  have hx : Box (((W.alloc (.cells #[.string ⟨#[103]⟩, .string ⟨#[98]⟩, .string ⟨#[106, 97, 114]⟩, .string ⟨#[]⟩, .string ⟨#[49]⟩, .int .i64 1] 44)).alloc (.cells #[.string ⟨#[103]⟩, .string ⟨#[98]⟩, .string ⟨#[106, 97, 114]⟩, .string ⟨#[]⟩, .string ⟨#[49]⟩, .int .i64 1] 44)).alloc (.cells #[.string ⟨#[103]⟩, .string ⟨#[97]⟩, .string ⟨#[49]⟩, .slice (some ⟨W.heap.size + 1, 0, none⟩) 1 1] 26)) (W.heap.size + 1 + 1) (lockC lockA (.slice (some ⟨W.heap.size + 1, 0, none⟩) 1 1)) := Box.new _ (lockC lockA (.slice (some ⟨W.heap.size + 1, 0, none⟩) 1 1)) _ _ (by simp)
  have hs : SliceOf 6 pinC ((W.alloc (.cells #[.string ⟨#[103]⟩, .string ⟨#[98]⟩, .string ⟨#[106, 97, 114]⟩, .string ⟨#[]⟩, .string ⟨#[49]⟩, .int .i64 1] 44)).alloc (.cells #[.string ⟨#[103]⟩, .string ⟨#[98]⟩, .string ⟨#[106, 97, 114]⟩, .string ⟨#[]⟩, .string ⟨#[49]⟩, .int .i64 1] 44)) (.slice (some ⟨W.heap.size + 1, 0, none⟩) 1 1) lockA.pins := sliceLit pinC_len _ lockA.pins _ _ _ (by simp) rfl (by decide)
  have hX : Box (((W.alloc (.cells #[.string ⟨#[103]⟩, .string ⟨#[98]⟩, .string ⟨#[106, 97, 114]⟩, .string ⟨#[]⟩, .string ⟨#[49]⟩, .int .i64 1] 44)).alloc (.cells #[.string ⟨#[103]⟩, .string ⟨#[98]⟩, .string ⟨#[106, 97, 114]⟩, .string ⟨#[]⟩, .string ⟨#[49]⟩, .int .i64 1] 44)).alloc (.cells #[.string ⟨#[103]⟩, .string ⟨#[97]⟩, .string ⟨#[49]⟩, .slice (some ⟨W.heap.size + 1, 0, none⟩) 1 1] 26)) (W.heap.size + 1 + 1) (lockC lockA (.slice (some ⟨W.heap.size + 1, 0, none⟩) 1 1)) := hx
  exact ⟨⟨_, _, hX.lt, fun j u hu => hX.cell j u hu, (hs.below ((Below.refl _ _).alloc (Nat.le_refl _) _)).drewN 1⟩, belowN ((((Below.refl W.heap.size W).alloc (Nat.le_refl _) _).alloc (by simp) _).alloc (by simp; omega) _) 1⟩
theorem lock_B0 (W : World) : LockAt ((((W.alloc (.cells #[.string ⟨#[103]⟩, .string ⟨#[97]⟩, .string ⟨#[49]⟩, .slice (some ⟨W.heap.size + 1 + 1 + 1, 0, none⟩) 2 2] 26)).alloc (.cells #[.string ⟨#[103]⟩, .string ⟨#[98]⟩, .string ⟨#[106, 97, 114]⟩, .string ⟨#[]⟩, .string ⟨#[50]⟩, .int .i64 1] 44)).alloc (.cells #[.string ⟨#[103]⟩, .string ⟨#[99]⟩, .string ⟨#[106, 97, 114]⟩, .string ⟨#[]⟩, .string ⟨#[49]⟩, .int .i64 1] 44)).alloc (.cells #[.string ⟨#[103]⟩, .string ⟨#[98]⟩, .string ⟨#[106, 97, 114]⟩, .string ⟨#[]⟩, .string ⟨#[50]⟩, .int .i64 1, .string ⟨#[103]⟩, .string ⟨#[99]⟩, .string ⟨#[106, 97, 114]⟩, .string ⟨#[]⟩, .string ⟨#[49]⟩, .int .i64 1] 44)).drew (W.heap.size) lockB ∧ Below W.heap.size W ((((W.alloc (.cells #[.string ⟨#[103]⟩, .string ⟨#[97]⟩, .string ⟨#[49]⟩, .slice (some ⟨W.heap.size + 1 + 1 + 1, 0, none⟩) 2 2] 26)).alloc (.cells #[.string ⟨#[103]⟩, .string ⟨#[98]⟩, .string ⟨#[106, 97, 114]⟩, .string ⟨#[]⟩, .string ⟨#[50]⟩, .int .i64 1] 44)).alloc (.cells #[.string ⟨#[103]⟩, .string ⟨#[99]⟩, .string ⟨#[106, 97, 114]⟩, .string ⟨#[]⟩, .string ⟨#[49]⟩, .int .i64 1] 44)).alloc (.cells #[.string ⟨#[103]⟩, .string ⟨#[98]⟩, .string ⟨#[106, 97, 114]⟩, .string ⟨#[]⟩, .string ⟨#[50]⟩, .int .i64 1, .string ⟨#[103]⟩, .string ⟨#[99]⟩, .string ⟨#[106, 97, 114]⟩, .string ⟨#[]⟩, .string ⟨#[49]⟩, .int .i64 1] 44)).drew := by
  have hx : Box (W.alloc (.cells #[.string ⟨#[103]⟩, .string ⟨#[97]⟩, .string ⟨#[49]⟩, .slice (some ⟨W.heap.size + 1 + 1 + 1, 0, none⟩) 2 2] 26)) (W.heap.size) (lockC lockB (.slice (some ⟨W.heap.size + 1 + 1 + 1, 0, none⟩) 2 2)) := Box.new _ (lockC lockB (.slice (some ⟨W.heap.size + 1 + 1 + 1, 0, none⟩) 2 2)) _ _ (rfl)
  have hs : SliceOf 6 pinC ((((W.alloc (.cells #[.string ⟨#[103]⟩, .string ⟨#[97]⟩, .string ⟨#[49]⟩, .slice (some ⟨W.heap.size + 1 + 1 + 1, 0, none⟩) 2 2] 26)).alloc (.cells #[.string ⟨#[103]⟩, .string ⟨#[98]⟩, .string ⟨#[106, 97, 114]⟩, .string ⟨#[]⟩, .string ⟨#[50]⟩, .int .i64 1] 44)).alloc (.cells #[.string ⟨#[103]⟩, .string ⟨#[99]⟩, .string ⟨#[106, 97, 114]⟩, .string ⟨#[]⟩, .string ⟨#[49]⟩, .int .i64 1] 44)).alloc (.cells #[.string ⟨#[103]⟩, .string ⟨#[98]⟩, .string ⟨#[106, 97, 114]⟩, .string ⟨#[]⟩, .string ⟨#[50]⟩, .int .i64 1, .string ⟨#[103]⟩, .string ⟨#[99]⟩, .string ⟨#[106, 97, 114]⟩, .string ⟨#[]⟩, .string ⟨#[49]⟩, .int .i64 1] 44)) (.slice (some ⟨W.heap.size + 1 + 1 + 1, 0, none⟩) 2 2) lockB.pins := sliceLit pinC_len _ lockB.pins _ _ _ (by simp) rfl (by decide)
  have hX : Box ((((W.alloc (.cells #[.string ⟨#[103]⟩, .string ⟨#[97]⟩, .string ⟨#[49]⟩, .slice (some ⟨W.heap.size + 1 + 1 + 1, 0, none⟩) 2 2] 26)).alloc (.cells #[.string ⟨#[103]⟩, .string ⟨#[98]⟩, .string ⟨#[106, 97, 114]⟩, .string ⟨#[]⟩, .string ⟨#[50]⟩, .int .i64 1] 44)).alloc (.cells #[.string ⟨#[103]⟩, .string ⟨#[99]⟩, .string ⟨#[106, 97, 114]⟩, .string ⟨#[]⟩, .string ⟨#[49]⟩, .int .i64 1] 44)).alloc (.cells #[.string ⟨#[103]⟩, .string ⟨#[98]⟩, .string ⟨#[106, 97, 114]⟩, .string ⟨#[]⟩, .string ⟨#[50]⟩, .int .i64 1, .string ⟨#[103]⟩, .string ⟨#[99]⟩, .string ⟨#[106, 97, 114]⟩, .string ⟨#[]⟩, .string ⟨#[49]⟩, .int .i64 1] 44)) (W.heap.size) (lockC lockB (.slice (some ⟨W.heap.size + 1 + 1 + 1, 0, none⟩) 2 2)) := (((hx.alloc _).alloc _).alloc _)
  exact ⟨⟨_, _, hX.lt, fun j u hu => hX.cell j u hu, hs.drewN 1⟩, belowN (((((Below.refl W.heap.size W).alloc (Nat.le_refl _) _).alloc (by simp) _).alloc (by simp; omega) _).alloc (by simp; omega) _) 1⟩
theorem lock_B1 (W : World) : LockAt ((((W.alloc (.cells #[.string ⟨#[103]⟩, .string ⟨#[98]⟩, .string ⟨#[106, 97, 114]⟩, .string ⟨#[]⟩, .string ⟨#[50]⟩, .int .i64 1] 44)).alloc (.cells #[.string ⟨#[103]⟩, .string ⟨#[97]⟩, .string ⟨#[49]⟩, .slice (some ⟨W.heap.size + 1 + 1 + 1, 0, none⟩) 2 2] 26)).alloc (.cells #[.string ⟨#[103]⟩, .string ⟨#[99]⟩, .string ⟨#[106, 97, 114]⟩, .string ⟨#[]⟩, .string ⟨#[49]⟩, .int .i64 1] 44)).alloc (.cells #[.string ⟨#[103]⟩, .string ⟨#[98]⟩, .string ⟨#[106, 97, 114]⟩, .string ⟨#[]⟩, .string ⟨#[50]⟩, .int .i64 1, .string ⟨#[103]⟩, .string ⟨#[99]⟩, .string ⟨#[106, 97, 114]⟩, .string ⟨#[]⟩, .string ⟨#[49]⟩, .int .i64 1] 44)).drew (W.heap.size + 1) lockB ∧ Below W.heap.size W ((((W.alloc (.cells #[.string ⟨#[103]⟩, .string ⟨#[98]⟩, .string ⟨#[106, 97, 114]⟩, .string ⟨#[]⟩, .string ⟨#[50]⟩, .int .i64 1] 44)).alloc (.cells #[.string ⟨#[103]⟩, .string ⟨#[97]⟩, .string ⟨#[49]⟩, .slice (some ⟨W.heap.size + 1 + 1 + 1, 0, none⟩) 2 2] 26)).alloc (.cells #[.string ⟨#[103]⟩, .string ⟨#[99]⟩, .string ⟨#[106, 97, 114]⟩, .string ⟨#[]⟩, .string ⟨#[49]⟩, .int .i64 1] 44)).alloc (.cells #[.string ⟨#[103]⟩, .string ⟨#[98]⟩, .string ⟨#[106, 97, 114]⟩, .string ⟨#[]⟩, .string ⟨#[50]⟩, .int .i64 1, .string ⟨#[103]⟩, .string ⟨#[99]⟩, .string ⟨#[106, 97, 114]⟩, .string ⟨#[]⟩, .string ⟨#[49]⟩, .int .i64 1] 44)).drew := by
  have hx : Box ((W.alloc (.cells #[.string ⟨#[103]⟩, .string ⟨#[98]⟩, .string ⟨#[106, 97, 114]⟩, .string ⟨#[]⟩, .string ⟨#[50]⟩, .int .i64 1] 44)).alloc (.cells #[.string ⟨#[103]⟩, .string ⟨#[97]⟩, .string ⟨#[49]⟩, .slice (some ⟨W.heap.size + 1 + 1 + 1, 0, none⟩) 2 2] 26)) (W.heap.size + 1) (lockC lockB (.slice (some ⟨W.heap.size + 1 + 1 + 1, 0, none⟩) 2 2)) := Box.new _ (lockC lockB (.slice (some ⟨W.heap.size + 1 + 1 + 1, 0, none⟩) 2 2)) _ _ (by simp)
  have hs : SliceOf 6 pinC ((((W.alloc (.cells #[.string ⟨#[103]⟩, .string ⟨#[98]⟩, .string ⟨#[106, 97, 114]⟩, .string ⟨#[]⟩, .string ⟨#[50]⟩, .int .i64 1] 44)).alloc (.cells #[.string ⟨#[103]⟩, .string ⟨#[97]⟩, .string ⟨#[49]⟩, .slice (some ⟨W.heap.size + 1 + 1 + 1, 0, none⟩) 2 2] 26)).alloc (.cells #[.string ⟨#[103]⟩, .string ⟨#[99]⟩, .string ⟨#[106, 97, 114]⟩, .string ⟨#[]⟩, .string ⟨#[49]⟩, .int .i64 1] 44)).alloc (.cells #[.string ⟨#[103]⟩, .string ⟨#[98]⟩, .string ⟨#[106, 97, 114]⟩, .string ⟨#[]⟩, .string ⟨#[50]⟩, .int .i64 1, .string ⟨#[103]⟩, .string ⟨#[99]⟩, .string ⟨#[106, 97, 114]⟩, .string ⟨#[]⟩, .string ⟨#[49]⟩, .int .i64 1] 44)) (.slice (some ⟨W.heap.size + 1 + 1 + 1, 0, none⟩) 2 2) lockB.pins := sliceLit pinC_len _ lockB.pins _ _ _ (by simp) rfl (by decide)
  have hX : Box ((((W.alloc (.cells #[.string ⟨#[103]⟩, .string ⟨#[98]⟩, .string ⟨#[106, 97, 114]⟩, .string ⟨#[]⟩, .string ⟨#[50]⟩, .int .i64 1] 44)).alloc (.cells #[.string ⟨#[103]⟩, .string ⟨#[97]⟩, .string ⟨#[49]⟩, .slice (some ⟨W.heap.size + 1 + 1 + 1, 0, none⟩) 2 2] 26)).alloc (.cells #[.string ⟨#[103]⟩, .string ⟨#[99]⟩, .string ⟨#[106, 97, 114]⟩, .string ⟨#[]⟩, .string ⟨#[49]⟩, .int .i64 1] 44)).alloc (.cells #[.string ⟨#[103]⟩, .string ⟨#[98]⟩, .string ⟨#[106, 97, 114]⟩, .string ⟨#[]⟩, .string ⟨#[50]⟩, .int .i64 1, .string ⟨#[103]⟩, .string ⟨#[99]⟩, .string ⟨#[106, 97, 114]⟩, .string ⟨#[]⟩, .string ⟨#[49]⟩, .int .i64 1] 44)) (W.heap.size + 1) (lockC lockB (.slice (some ⟨W.heap.size + 1 + 1 + 1, 0, none⟩) 2 2)) := ((hx.alloc _).alloc _)
  exact ⟨⟨_, _, hX.lt, fun j u hu => hX.cell j u hu, hs.drewN 1⟩, belowN (((((Below.refl W.heap.size W).alloc (Nat.le_refl _) _).alloc (by simp) _).alloc (by simp; omega) _).alloc (by simp; omega) _) 1⟩
theorem lock_B2 (W : World) : LockAt ((((W.alloc (.cells #[.string ⟨#[103]⟩, .string ⟨#[98]⟩, .string ⟨#[106, 97, 114]⟩, .string ⟨#[]⟩, .string ⟨#[50]⟩, .int .i64 1] 44)).alloc (.cells #[.string ⟨#[103]⟩, .string ⟨#[99]⟩, .string ⟨#[106, 97, 114]⟩, .string ⟨#[]⟩, .string ⟨#[49]⟩, .int .i64 1] 44)).alloc (.cells #[.string ⟨#[103]⟩, .string ⟨#[97]⟩, .string ⟨#[49]⟩, .slice (some ⟨W.heap.size + 1 + 1 + 1, 0, none⟩) 2 2] 26)).alloc (.cells #[.string ⟨#[103]⟩, .string ⟨#[98]⟩, .string ⟨#[106, 97, 114]⟩, .string ⟨#[]⟩, .string ⟨#[50]⟩, .int .i64 1, .string ⟨#[103]⟩, .string ⟨#[99]⟩, .string ⟨#[106, 97, 114]⟩, .string ⟨#[]⟩, .string ⟨#[49]⟩, .int .i64 1] 44)).drew (W.heap.size + 1 + 1) lockB ∧ Below W.heap.size W ((((W.alloc (.cells #[.string ⟨#[103]⟩, .string ⟨#[98]⟩, .string ⟨#[106, 97, 114]⟩, .string ⟨#[]⟩, .string ⟨#[50]⟩, .int .i64 1] 44)).alloc (.cells #[.string ⟨#[103]⟩, .string ⟨#[99]⟩, .string ⟨#[106, 97, 114]⟩, .string ⟨#[]⟩, .string ⟨#[49]⟩, .int .i64 1] 44)).alloc (.cells #[.string ⟨#[103]⟩, .string ⟨#[97]⟩, .string ⟨#[49]⟩, .slice (some ⟨W.heap.size + 1 + 1 + 1, 0, none⟩) 2 2] 26)).alloc (.cells #[.string ⟨#[103]⟩, .string ⟨#[98]⟩, .string ⟨#[106, 97, 114]⟩, .string ⟨#[]⟩, .string ⟨#[50]⟩, .int .i64 1, .string ⟨#[103]⟩, .string ⟨#[99]⟩, .string ⟨#[106, 97, 114]⟩, .string ⟨#[]⟩, .string ⟨#[49]⟩, .int .i64 1] 44)).drew := by
  have hx : Box (((W.alloc (.cells #[.string ⟨#[103]⟩, .string ⟨#[98]⟩, .string ⟨#[106, 97, 114]⟩, .string ⟨#[]⟩, .string ⟨#[50]⟩, .int .i64 1] 44)).alloc (.cells #[.string ⟨#[103]⟩, .string ⟨#[99]⟩, .string ⟨#[106, 97, 114]⟩, .string ⟨#[]⟩, .string ⟨#[49]⟩, .int .i64 1] 44)).alloc (.cells #[.string ⟨#[103]⟩, .string ⟨#[97]⟩, .string ⟨#[49]⟩, .slice (some ⟨W.heap.size + 1 + 1 + 1, 0, none⟩) 2 2] 26)) (W.heap.size + 1 + 1) (lockC lockB (.slice (some ⟨W.heap.size + 1 + 1 + 1, 0, none⟩) 2 2)) := Box.new _ (lockC lockB (.slice (some ⟨W.heap.size + 1 + 1 + 1, 0, none⟩) 2 2)) _ _ (by simp)
  have hs : SliceOf 6 pinC ((((W.alloc (.cells #[.string ⟨#[103]⟩, .string ⟨#[98]⟩, .string ⟨#[106, 97, 114]⟩, .string ⟨#[]⟩, .string ⟨#[50]⟩, .int .i64 1] 44)).alloc (.cells #[.string ⟨#[103]⟩, .string ⟨#[99]⟩, .string ⟨#[106, 97, 114]⟩, .string ⟨#[]⟩, .string ⟨#[49]⟩, .int .i64 1] 44)).alloc (.cells #[.string ⟨#[103]⟩, .string ⟨#[97]⟩, .string ⟨#[49]⟩, .slice (some ⟨W.heap.size + 1 + 1 + 1, 0, none⟩) 2 2] 26)).alloc (.cells #[.string ⟨#[103]⟩, .string ⟨#[98]⟩, .string ⟨#[106, 97, 114]⟩, .string ⟨#[]⟩, .string ⟨#[50]⟩, .int .i64 1, .string ⟨#[103]⟩, .string ⟨#[99]⟩, .string ⟨#[106, 97, 114]⟩, .string ⟨#[]⟩, .string ⟨#[49]⟩, .int .i64 1] 44)) (.slice (some ⟨W.heap.size + 1 + 1 + 1, 0, none⟩) 2 2) lockB.pins := sliceLit pinC_len _ lockB.pins _ _ _ (by simp) rfl (by decide)
  have hX : Box ((((W.alloc (.cells #[.string ⟨#[103]⟩, .string ⟨#[98]⟩, .string ⟨#[106, 97, 114]⟩, .string ⟨#[]⟩, .string ⟨#[50]⟩, .int .i64 1] 44)).alloc (.cells #[.string ⟨#[103]⟩, .string ⟨#[99]⟩, .string ⟨#[106, 97, 114]⟩, .string ⟨#[]⟩, .string ⟨#[49]⟩, .int .i64 1] 44)).alloc (.cells #[.string ⟨#[103]⟩, .string ⟨#[97]⟩, .string ⟨#[49]⟩, .slice (some ⟨W.heap.size + 1 + 1 + 1, 0, none⟩) 2 2] 26)).alloc (.cells #[.string ⟨#[103]⟩, .string ⟨#[98]⟩, .string ⟨#[106, 97, 114]⟩, .string ⟨#[]⟩, .string ⟨#[50]⟩, .int .i64 1, .string ⟨#[103]⟩, .string ⟨#[99]⟩, .string ⟨#[106, 97, 114]⟩, .string ⟨#[]⟩, .string ⟨#[49]⟩, .int .i64 1] 44)) (W.heap.size + 1 + 1) (lockC lockB (.slice (some ⟨W.heap.size + 1 + 1 + 1, 0, none⟩) 2 2)) := (hx.alloc _)
  exact ⟨⟨_, _, hX.lt, fun j u hu => hX.cell j u hu, hs.drewN 1⟩, belowN (((((Below.refl W.heap.size W).alloc (Nat.le_refl _) _).alloc (by simp) _).alloc (by simp; omega) _).alloc (by simp; omega) _) 1⟩
theorem lock_B3 (W : World) : LockAt ((((W.alloc (.cells #[.string ⟨#[103]⟩, .string ⟨#[98]⟩, .string ⟨#[106, 97, 114]⟩, .string ⟨#[]⟩, .string ⟨#[50]⟩, .int .i64 1] 44)).alloc (.cells #[.string ⟨#[103]⟩, .string ⟨#[99]⟩, .string ⟨#[106, 97, 114]⟩, .string ⟨#[]⟩, .string ⟨#[49]⟩, .int .i64 1] 44)).alloc (.cells #[.string ⟨#[103]⟩, .string ⟨#[98]⟩, .string ⟨#[106, 97, 114]⟩, .string ⟨#[]⟩, .string ⟨#[50]⟩, .int .i64 1, .string ⟨#[103]⟩, .string ⟨#[99]⟩, .string ⟨#[106, 97, 114]⟩, .string ⟨#[]⟩, .string ⟨#[49]⟩, .int .i64 1] 44)).alloc (.cells #[.string ⟨#[103]⟩, .string ⟨#[97]⟩, .string ⟨#[49]⟩, .slice (some ⟨W.heap.size + 1 + 1, 0, none⟩) 2 2] 26)).drew (W.heap.size + 1 + 1 + 1) lockB ∧ Below W.heap.size W ((((W.alloc (.cells #[.string ⟨#[103]⟩, .string ⟨#[98]⟩, .string ⟨#[106, 97, 114]⟩, .string ⟨#[]⟩, .string ⟨#[50]⟩, .int .i64 1] 44)).alloc (.cells #[.string ⟨#[103]⟩, .string ⟨#[99]⟩, .string ⟨#[106, 97, 114]⟩, .string ⟨#[]⟩, .string ⟨#[49]⟩, .int .i64 1] 44)).alloc (.cells #[.string ⟨#[103]⟩, .string ⟨#[98]⟩, .string ⟨#[106, 97, 114]⟩, .string ⟨#[]⟩, .string ⟨#[50]⟩, .int .i64 1, .string ⟨#[103]⟩, .string ⟨#[99]⟩, .string ⟨#[106, 97, 114]⟩, .string ⟨#[]⟩, .string ⟨#[49]⟩, .int .i64 1] 44)).alloc (.cells #[.string ⟨#[103]⟩, .string ⟨#[97]⟩, .string ⟨#[49]⟩, .slice (some ⟨W.heap.size + 1 + 1, 0, none⟩) 2 2] 26)).drew := by
  have hx : Box ((((W.alloc (.cells #[.string ⟨#[103]⟩, .string ⟨#[98]⟩, .string ⟨#[106, 97, 114]⟩, .string ⟨#[]⟩, .string ⟨#[50]⟩, .int .i64 1] 44)).alloc (.cells #[.string ⟨#[103]⟩, .string ⟨#[99]⟩, .string ⟨#[106, 97, 114]⟩, .string ⟨#[]⟩, .string ⟨#[49]⟩, .int .i64 1] 44)).alloc (.cells #[.string ⟨#[103]⟩, .string ⟨#[98]⟩, .string ⟨#[106, 97, 114]⟩, .string ⟨#[]⟩, .string ⟨#[50]⟩, .int .i64 1, .string ⟨#[103]⟩, .string ⟨#[99]⟩, .string ⟨#[106, 97, 114]⟩, .string ⟨#[]⟩, .string ⟨#[49]⟩, .int .i64 1] 44)).alloc (.cells #[.string ⟨#[103]⟩, .string ⟨#[97]⟩, .string ⟨#[49]⟩, .slice (some ⟨W.heap.size + 1 + 1, 0, none⟩) 2 2] 26)) (W.heap.size + 1 + 1 + 1) (lockC lockB (.slice (some ⟨W.heap.size + 1 + 1, 0, none⟩) 2 2)) := Box.new _ (lockC lockB (.slice (some ⟨W.heap.size + 1 + 1, 0, none⟩) 2 2)) _ _ (by simp)
  have hs : SliceOf 6 pinC (((W.alloc (.cells #[.string ⟨#[103]⟩, .string ⟨#[98]⟩, .string ⟨#[106, 97, 114]⟩, .string ⟨#[]⟩, .string ⟨#[50]⟩, .int .i64 1] 44)).alloc (.cells #[.string ⟨#[103]⟩, .string ⟨#[99]⟩, .string ⟨#[106, 97, 114]⟩, .string ⟨#[]⟩, .string ⟨#[49]⟩, .int .i64 1] 44)).alloc (.cells #[.string ⟨#[103]⟩, .string ⟨#[98]⟩, .string ⟨#[106, 97, 114]⟩, .string ⟨#[]⟩, .string ⟨#[50]⟩, .int .i64 1, .string ⟨#[103]⟩, .string ⟨#[99]⟩, .string ⟨#[106, 97, 114]⟩, .string ⟨#[]⟩, .string ⟨#[49]⟩, .int .i64 1] 44)) (.slice (some ⟨W.heap.size + 1 + 1, 0, none⟩) 2 2) lockB.pins := sliceLit pinC_len _ lockB.pins _ _ _ (by simp) rfl (by decide)
  have hX : Box ((((W.alloc (.cells #[.string ⟨#[103]⟩, .string ⟨#[98]⟩, .string ⟨#[106, 97, 114]⟩, .string ⟨#[]⟩, .string ⟨#[50]⟩, .int .i64 1] 44)).alloc (.cells #[.string ⟨#[103]⟩, .string ⟨#[99]⟩, .string ⟨#[106, 97, 114]⟩, .string ⟨#[]⟩, .string ⟨#[49]⟩, .int .i64 1] 44)).alloc (.cells #[.string ⟨#[103]⟩, .string ⟨#[98]⟩, .string ⟨#[106, 97, 114]⟩, .string ⟨#[]⟩, .string ⟨#[50]⟩, .int .i64 1, .string ⟨#[103]⟩, .string ⟨#[99]⟩, .string ⟨#[106, 97, 114]⟩, .string ⟨#[]⟩, .string ⟨#[49]⟩, .int .i64 1] 44)).alloc (.cells #[.string ⟨#[103]⟩, .string ⟨#[97]⟩, .string ⟨#[49]⟩, .slice (some ⟨W.heap.size + 1 + 1, 0, none⟩) 2 2] 26)) (W.heap.size + 1 + 1 + 1) (lockC lockB (.slice (some ⟨W.heap.size + 1 + 1, 0, none⟩) 2 2)) := hx
  exact ⟨⟨_, _, hX.lt, fun j u hu => hX.cell j u hu, (hs.below ((Below.refl _ _).alloc (Nat.le_refl _) _)).drewN 1⟩, belowN (((((Below.refl W.heap.size W).alloc (Nat.le_refl _) _).alloc (by simp) _).alloc (by simp; omega) _).alloc (by simp; omega) _) 1⟩

set_option maxRecDepth 100000 in
set_option maxHeartbeats 16000000 in
theorem lives_any (w : World) : Calls Try.prog 8 #[] w fun e w' => e = .returned (.bool true) ∧ Below w.heap.size w w' := by
  go_enter Try.func8, Try.ntmps8
  go_upto_region 2 with fail
  refine wp_world ?_
  intro W hW
  have x1 : Box W w.heap.size [.string ⟨#[103]⟩, .string ⟨#[97]⟩, .string ⟨#[49]⟩] := by rw [hW]; exact Box.new w _ _ _ rfl
  have hB : Below w.heap.size w W := by rw [hW]; exact (Below.refl _ w).alloc (Nat.le_refl _) _
  clear hW
  have y0 := x1.cell 0 _ rfl
  have y1 := x1.cell 1 _ rfl
  have y2 := x1.cell 2 _ rfl
  have l1 := x1.lt
  have l2 : w.heap.size < W.heap.size + 1 := by omega
  have l3 : w.heap.size < W.heap.size + 1 + 1 := by omega
  have l4 : w.heap.size < W.heap.size + 1 + 1 + 1 := by omega
  have HX := Lib.hid x1
  have HB := Lib.hid hB
  clear x1 hB
  go_cut [2] from 6 to 9 (fun v wx => ∃ b, v = .pointer (some ⟨b, 0, none⟩) ∧ LockAt wx b lockA ∧ Below W.heap.size W wx)
  case first =>
    go_region_law (first | (go_simp; go_at_call 21; refine (lawPin_any _ _ _).mono ?_; rintro e w1 ⟨rfl, rfl⟩))
    all_goals
      go_wp2_with fail
      go_meet
      first
        | exact ⟨_, rfl, lock_A0 W⟩
        | exact ⟨_, rfl, lock_A1 W⟩
        | exact ⟨_, rfl, lock_A2 W⟩
  case rest =>
    obtain ⟨bA, rfl, hA, hb⟩ := hcut
    have HLA := Lib.hid hA
    have HBV := Lib.hid (HB.out.trans (hb.mono HB.out.size))
    have HXV := Lib.hid (HX.out.below hb HX.out.lt)
    obtain ⟨V, rfl⟩ : ∃ V : World, V = wc := ⟨_, rfl⟩
    have u0 := HXV.out.cell 0 _ rfl
    have u1 := HXV.out.cell 1 _ rfl
    have u2 := HXV.out.cell 2 _ rfl
    have k1 := HXV.out.lt
    have k2 : w.heap.size < V.heap.size + 1 := by omega
    have k3 : w.heap.size < V.heap.size + 1 + 1 := by omega
    have k4 : w.heap.size < V.heap.size + 1 + 1 + 1 := by omega
    have k5 : w.heap.size < V.heap.size + 1 + 1 + 1 + 1 := by omega
    clear y0 y1 y2 l1 l2 l3 l4 hA hb HB
    go_upto_region 3 with fail
    go_cut [3] from 10 to 14 (fun v wx => ∃ b, v = .pointer (some ⟨b, 0, none⟩) ∧ LockAt wx b lockB ∧ Below V.heap.size V wx)
    case first =>
      go_region_law (first | (go_simp; go_at_call 21; refine (lawPin_any _ _ _).mono ?_; rintro e w1 ⟨rfl, rfl⟩))
      all_goals
        go_wp2_with fail
        go_meet
        first
          | exact ⟨_, rfl, lock_B0 V⟩
          | exact ⟨_, rfl, lock_B1 V⟩
          | exact ⟨_, rfl, lock_B2 V⟩
          | exact ⟨_, rfl, lock_B3 V⟩
    case rest =>
      obtain ⟨bB, rfl, hB, hb⟩ := hcut
      have HLB := Lib.hid hB
      have HLA2 := Lib.hid (HLA.out.below hb)
      have HBX := Lib.hid (HBV.out.trans (hb.mono HBV.out.size))
      have hsx := HBX.out.size
      clear u0 u1 u2 k1 k2 k3 k4 k5 hB hb HLA
      obtain ⟨ao, ac, hla, hca, hpa⟩ := HLA2.out
      obtain ⟨bo, bc, hlb, hcb, hpb⟩ := HLB.out
      have HPA := Lib.hid hpa
      have HPB := Lib.hid hpb
      have p0 := hca 0 _ rfl
      have p1 := hca 1 _ rfl
      have p2 := hca 2 _ rfl
      have p3 := hca 3 _ rfl
      have q0 := hcb 0 _ rfl
      have q1 := hcb 1 _ rfl
      have q2 := hcb 2 _ rfl
      have q3 := hcb 3 _ rfl
      clear hca hcb hpa hpb
      go_wp2_with fail
      refine (edits_any lockA lockB (.slice ao 1 ac) (.slice bo 2 bc) wc HPA.out HPB.out lockA_sm lockB_sm (by decide)).mono ?_
      rintro e w4 ⟨v, rfl, ho, hb4⟩
      rw [editsAB] at ho
      obtain ⟨vo, vc, rfl⟩ := ho.shape
      have HE := Lib.hid (ho.slice editC_len)
      have HB4 := Lib.hid (HBX.out.trans (hb4.mono hsx))
      have hs4 := HB4.out.size
      clear p0 p1 p2 p3 q0 q1 q2 q3 ho hb4
      go_wp2_with fail
      refine (tell_any listE _ w4 HE.out listE_ok (by decide)).mono ?_
      rintro e w5 ⟨v, rfl, ho5, hb5⟩
      rw [tellAB] at ho5
      obtain ⟨ta, tc, rfl⟩ := ho5.shape
      have HS := Lib.hid (ho5.slice strC_len)
      have HB5 := Lib.hid (HB4.out.trans (hb5.mono hs4))
      obtain ⟨tb, tf, rfl, -, hc0⟩ := HS.out.at (k := 0) (by simp)
      obtain ⟨tb', tf', he, -, hc1⟩ := HS.out.at (k := 1) (by simp)
      cases he
      have t0 : w5.cell? ⟨tb, tf, none⟩ = some (.string line1) := by simpa using hc0 0 _ rfl
      have t1 : w5.cell? ⟨tb, tf + 1, none⟩ = some (.string line2) := by simpa using hc1 0 _ rfl
      have s1 : (line1.toList == [126, 32, 103, 58, 98, 58, 106, 97, 114, 32, 49, 32, 99, 111, 109, 112, 105, 108, 101, 32, 116, 111, 32, 50, 32, 99, 111, 109, 112, 105, 108, 101]) = true := by rw [str_lit]; rfl
      have s2 : (line2.toList == [43, 32, 103, 58, 99, 58, 106, 97, 114, 32, 49, 32, 99, 111, 109, 112, 105, 108, 101]) = true := by rw [str_lit]; rfl
      clear hc0 hc1 ho5 hb5
      go_wp2
      go_ret
      exact ⟨rfl, HB5.out⟩

end Go.Proofs.Ytmcjpmogjmnfpaa
