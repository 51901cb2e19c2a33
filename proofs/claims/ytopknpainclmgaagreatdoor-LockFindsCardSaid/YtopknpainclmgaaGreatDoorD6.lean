/- Walks: lock.pin; the conditions stand in the theorems. -/
import Derived.Test.YtopknpainclmgaaGreatDoorD5
import Derived.Test.YtopknpainclmgaaGreatDoorG2
import Derived.Deep.RegionHeld3
namespace Go.Proofs.YtopknpainclmgaaGreatDoor
open Go Go.RowKit

theorem pinP_no {s : Bs} (h : (piecesB 32 s).length ≠ 4) : pinP s = none := by
  unfold pinP
  split
  · rename_i h'; rw [h'] at h; exact absurd rfl h
  · rfl
theorem pinP_not {s a b c d : Bs} (h : piecesB 32 s = [a, b, c, d]) (ha : a ≠ pinW) : pinP s = none := by
  unfold pinP
  rw [h]
  simp only
  rw [if_neg ha]
theorem pinP_four {s b c d : Bs} (h : piecesB 32 s = [pinW, b, c, d]) : pinP s = match keyP b with
    | some k => if pinMay ⟨k, bs c, scopeN d⟩ then some ⟨k, bs c, scopeN d⟩ else none
    | none => none := by
  unfold pinP
  rw [h]
  simp only
  rw [if_pos trivial]
  cases keyP b <;> rfl
theorem scopeW_six {d : Bs} : scopeW d = scopeN d ∨ (scopeN d = 0 ∧ (scopeW d = 6 ∨ scopeW d = 0)) := by
  unfold scopeW
  by_cases h : scopeN d = 0
  · right
    refine ⟨h, ?_⟩
    rw [if_neg (by simp [h])]
    split
    · exact .inl rfl
    · exact .inr rfl
  · left; rw [if_pos h]
/-- What the program makes of the words of a pin's line. -/
theorem pin_law {s b c d : Bs} (h : piecesB 32 s = [pinW, b, c, d]) :
    (pinP s).isSome = ((keyR b).isSome && (decide (scopeW d ≠ 0) && pinMay ⟨(keyR b).getD noKey, bs c, scopeW d⟩)) ∧ ∀ p, pinP s = some p → p = ⟨(keyR b).getD noKey, bs c, scopeW d⟩ := by
  rw [pinP_four h]
  unfold keyR
  cases hk : keyP b with
  | none => simp
  | some k =>
    simp only
    have hm : ∀ x : Int, pinMay ⟨k, bs c, x⟩ = (keyMay k && verMay (bs c) && decide (1 ≤ x) && decide (x ≤ 5)) := fun x => rfl
    by_cases hkm : keyMay k = true
    · rw [if_pos hkm]
      simp only [Option.isSome_some, Option.getD_some, Bool.true_and]
      rcases @scopeW_six d with e | ⟨e, e2 | e2⟩
      · rw [e]
        by_cases h0 : scopeN d = 0
        · rw [h0, hm]; simp
        · rw [show decide (scopeN d ≠ 0) = true by simpa using h0, Bool.true_and]
          by_cases hp : pinMay ⟨k, bs c, scopeN d⟩ = true
          · rw [if_pos hp, hp]; exact ⟨rfl, fun p hp => by cases hp; rfl⟩
          · rw [if_neg hp, Bool.not_eq_true] at *
            rw [hp]; exact ⟨rfl, fun p hp => by cases hp⟩
      · rw [e, e2, hm, hm]; simp
      · rw [e, e2, hm]; simp
    · have hkf : keyMay k = false := by simpa using hkm
      rw [if_neg hkm]
      simp only [Option.isSome_none, Bool.false_and, hm, hkf]
      simp
theorem there_box {w : World} {b n : Nat} {cs : List Value} (h : Box w b cs) (hn : cs.length = n) : w.there b 0 n := fun j hj => by
  subst hn
  rw [Nat.zero_add]
  exact ⟨by rw [h.cell j cs[j] (by simp [hj])]; rfl, h.free j⟩
theorem size_pin6 : (Tryz.prog.info? 33).map (·.size) = some 6 := by kernel_rfl
theorem below_setCells {B b : Nat} (hB : B ≤ b) {a : World} : ∀ (vs : List Value) (o : Nat) {w : World}, Below B a w → Below B a (w.setCells b o vs)
  | [], _, _, h => h
  | v :: r, o, _, h => below_setCells hB r (o + 1) (h.setCell (by exact hB) v)
theorem size_setCells (b : Nat) : ∀ (vs : List Value) (o : Nat) (w : World), (w.setCells b o vs).heap.size = w.heap.size
  | [], _, _ => rfl
  | v :: r, o, w => (size_setCells b r (o + 1) _).trans (by simp [World.setCell])
/-- A store of all of an own block's cells. -/
theorem wp_store_own {P : Program} {op : Oper} {a : Act} {w : World} {K : Act → World → Prop} {Q : Exit → Act → World → Prop} (ty : TypeId) (x y : Operand) (ho : op.op = .store ty x y)
    (b : Nat) (cs : List Value) (cells : Array Value) (hx : a.eval x = .pointer (some ⟨b, 0, none⟩)) (hy : a.eval y = .agg cells)
    (hb : Box w b cs) (hn : cs.length = cells.size) (hi : (P.info? ty).map (·.size) = some cells.size) (h1 : cells.all (·.oneCell') = true)
    (h : ∀ V, Box V b cells.toList → (∀ B a, B ≤ b → Below B a w → Below B a V) → V.heap.size = w.heap.size → (∀ p o, p ≠ b → V.cell? ⟨p, o, none⟩ = w.cell? ⟨p, o, none⟩) → K (a.put op.dst undef) V) : op.wp P a w K Q := by
  have ht := there_box hb hn
  refine wp_store_mid ty x y ho b 0 cells hx hy ht hi h1 (h _ ⟨?_, ?_, ?_⟩ ?_ ?_ ?_)
  · rw [size_setCells]; exact hb.lt
  · intro j v hv
    have := World.rangeAt_setCells_same w b 0 cells.toList (by simpa using ht) j v hv
    rwa [Nat.zero_add] at this
  · intro j
    rw [World.frozen?_setCells]; exact hb.free j
  · intro B a hB hab; exact below_setCells hB _ _ hab
  · exact size_setCells _ _ _ _
  · intro p o hp
    exact World.cell?_setCells_out _ _ _ _ _ (fun e _ => absurd e hp)
theorem keyR_sm {b : Bs} (hb : (bs b).size ≤ 1000000) : keySm ((keyR b).getD noKey) := by
  have hn : keySm noKey := ⟨by show (0 : Nat) ≤ _; omega, by show (0 : Nat) ≤ _; omega, by show (0 : Nat) ≤ _; omega, by show (0 : Nat) ≤ _; omega⟩
  have hp : ∀ p ∈ piecesB 58 b, (bs p).size ≤ 9223372036854775807 := fun p hp => by
    have := piece_len 58 b p hp
    rw [bs_size] at hb ⊢; omega
  unfold keyR keyP
  split
  · rename_i k hk
    split at hk
    · rename_i h
      cases hk
      rw [h] at hp
      split
      · exact ⟨hp _ (by simp), hp _ (by simp), hp _ (by simp), by show (0 : Nat) ≤ _; omega⟩
      · exact hn
    · rename_i h
      split at hk
      · cases hk
      · cases hk
        rw [h] at hp
        split
        · exact ⟨hp _ (by simp), hp _ (by simp), hp _ (by simp), hp _ (by simp)⟩
        · exact hn
    · cases hk
  · exact hn
/-- What lock.pin gives. -/
def PinOut (w : World) (r : Option Pin) (e : Ending) (w' : World) : Prop := ∃ p : Pin, e = .returned (.tuple #[.agg #[.string p.key.group, .string p.key.artifact, .string p.key.type, .string p.key.classifier, .string p.version, .int .i64 p.scope], .bool r.isSome]) ∧ (∀ q, r = some q → p = q) ∧ Below w.heap.size w w'
theorem PinOut.no {w w' : World} (h : Below w.heap.size w w') : PinOut w none (.returned (.tuple #[.agg #[.string ⟨#[]⟩, .string ⟨#[]⟩, .string ⟨#[]⟩, .string ⟨#[]⟩, .string ⟨#[]⟩, .int .i64 0], .bool false])) w' := ⟨noPin, rfl, fun q h => (by cases h), h⟩
def pinNUpd (K : Key) (xc : S) (sc : Int) (x0 x1 x2 x3 x4 x5 x6 x7 x8 x9 x10 x11 x12 x13 x14 x15 x16 x17 x18 x19 x20 x21 x22 x23 x24 x25 x26 x27 x28 x29 x30 x31 x32 x33 x34 x35 x36 x37 x38 x39 x40 x41 x46 x49 x50 : Value) (f0 f1 f2 f3 _f4 f5 f6 _f7 _f8 f9 _f10 _f11 : Bool)  : Act :=
  ⟨#[x0, x1, x2, x3, x4, x5, x6, x7, x8, x9, x10, x11, x12, x13, x14, x15, x16, x17, x18, x19, x20, x21, x22, x23, x24, x25, x26, x27, x28, x29, x30, x31, x32, x33, x34, x35, x36, x37, x38, x39, x40, x41, cond f0 (.agg #[.string K.group, .string K.artifact, .string K.type, .string K.classifier, .string xc, .int .i64 sc]) undef, cond f1 (x6) undef, cond f2 (.bool false) undef, cond f3 (.bool false) undef, x46, cond f5 (.bool false) undef, cond f6 (.bool false) undef, x49, x50, cond f9 (.bool false) undef], []⟩
def pinNJ (K : Key) (xc : S) (sc : Int) (_pm : Bool) (p9 t2 : Nat) (w W5 : World) (x0 x1 x2 x3 x4 x5 x6 x7 x8 x9 x10 x11 x12 x13 x14 x15 x16 x17 x18 x19 x20 x21 x22 x23 x24 x25 x26 x27 x28 x29 x30 x31 x32 x33 x34 x35 x36 x37 x38 x39 x40 x41 x46 x49 x50 : Value) (listed : Array Bool) (atx : Act) (w' : World) : Prop :=
  ∃ (f0 f1 f2 f3 f4 f5 f6 f7 f8 f9 f10 f11 : Bool) , listed = #[f0, f1, f2, f3, f4, f5, f6, f7, f8, f9, f10, f11] ∧ atx = pinNUpd K xc sc x0 x1 x2 x3 x4 x5 x6 x7 x8 x9 x10 x11 x12 x13 x14 x15 x16 x17 x18 x19 x20 x21 x22 x23 x24 x25 x26 x27 x28 x29 x30 x31 x32 x33 x34 x35 x36 x37 x38 x39 x40 x41 x46 x49 x50 f0 f1 f2 f3 f4 f5 f6 f7 f8 f9 f10 f11  ∧ Hid (f10 = true → f0 = true ∧ f8 = true) ∧ Hid (f8 = true → f7 = true) ∧ Below w.heap.size w w' ∧ W5.heap.size ≤ w'.heap.size ∧ (∀ o, w'.cell? ⟨p9, o, none⟩ = W5.cell? ⟨p9, o, none⟩) ∧ Box w' t2 (cond f10 [.string K.group, .string K.artifact, .string K.type, .string K.classifier, .string xc, .int .i64 sc] [.string ⟨#[]⟩, .string ⟨#[]⟩, .string ⟨#[]⟩, .string ⟨#[]⟩, .string ⟨#[]⟩, .int .i64 0])
def pinS0Upd (K : Key) (xc : S) (sc : Int) (x0 x1 x2 x3 x4 x5 x6 x7 x8 x9 x10 x11 x12 x13 x14 x15 x16 x17 x18 x19 x20 x21 x22 x23 x24 x25 x26 x27 x28 x29 x30 x31 x32 x33 x34 x35 x36 x37 x38 x39 x40 x41 x49 x50 : Value) (f0 f1 f2 f3 f4 f5 f6 _f7 _f8 f9 _f10 _f11 : Bool)  : Act :=
  ⟨#[x0, x1, x2, x3, x4, x5, x6, x7, x8, x9, x10, x11, x12, x13, x14, x15, x16, x17, x18, x19, x20, x21, x22, x23, x24, x25, x26, x27, x28, x29, x30, x31, x32, x33, x34, x35, x36, x37, x38, x39, x40, x41, cond f0 (.agg #[.string K.group, .string K.artifact, .string K.type, .string K.classifier, .string xc, .int .i64 sc]) undef, cond f1 (x6) undef, cond f2 (.bool true) undef, cond f3 (.bool true) undef, cond f4 (x8) undef, cond f5 (.bool false) undef, cond f6 (.bool false) undef, x49, x50, cond f9 (.bool false) undef], []⟩
def pinS0J (K : Key) (xc : S) (sc : Int) (_pm : Bool) (p9 t2 : Nat) (w W5 : World) (x0 x1 x2 x3 x4 x5 x6 x7 x8 x9 x10 x11 x12 x13 x14 x15 x16 x17 x18 x19 x20 x21 x22 x23 x24 x25 x26 x27 x28 x29 x30 x31 x32 x33 x34 x35 x36 x37 x38 x39 x40 x41 x49 x50 : Value) (listed : Array Bool) (atx : Act) (w' : World) : Prop :=
  ∃ (f0 f1 f2 f3 f4 f5 f6 f7 f8 f9 f10 f11 : Bool) , listed = #[f0, f1, f2, f3, f4, f5, f6, f7, f8, f9, f10, f11] ∧ atx = pinS0Upd K xc sc x0 x1 x2 x3 x4 x5 x6 x7 x8 x9 x10 x11 x12 x13 x14 x15 x16 x17 x18 x19 x20 x21 x22 x23 x24 x25 x26 x27 x28 x29 x30 x31 x32 x33 x34 x35 x36 x37 x38 x39 x40 x41 x49 x50 f0 f1 f2 f3 f4 f5 f6 f7 f8 f9 f10 f11  ∧ Hid (f10 = true → f0 = true ∧ f8 = true) ∧ Hid (f8 = true → f7 = true) ∧ Below w.heap.size w w' ∧ W5.heap.size ≤ w'.heap.size ∧ (∀ o, w'.cell? ⟨p9, o, none⟩ = W5.cell? ⟨p9, o, none⟩) ∧ Box w' t2 (cond f10 [.string K.group, .string K.artifact, .string K.type, .string K.classifier, .string xc, .int .i64 sc] [.string ⟨#[]⟩, .string ⟨#[]⟩, .string ⟨#[]⟩, .string ⟨#[]⟩, .string ⟨#[]⟩, .int .i64 0])
def pinS1Upd (K : Key) (xc : S) (sc : Int) (pm : Bool) (x0 x1 x2 x4 x5 x6 x7 x8 x9 x10 x11 x12 x13 x14 x15 x16 x17 x18 x19 x20 x21 x22 x23 x24 x25 x26 x27 x28 x29 x30 x31 x32 x33 x34 x35 x36 x37 x38 x39 x40 x41 : Value) (f0 f1 f2 f3 f4 f5 f6 f7 f8 f9 _f10 f11 : Bool)  : Act :=
  ⟨#[x0, x1, x2, cond f11 (.bool pm) (.bool false), x4, x5, x6, x7, x8, x9, x10, x11, x12, x13, x14, x15, x16, x17, x18, x19, x20, x21, x22, x23, x24, x25, x26, x27, x28, x29, x30, x31, x32, x33, x34, x35, x36, x37, x38, x39, x40, x41, cond f0 (.agg #[.string K.group, .string K.artifact, .string K.type, .string K.classifier, .string xc, .int .i64 sc]) undef, cond f1 (x6) undef, cond f2 (.bool true) undef, cond f3 (.bool true) undef, cond f4 (x8) undef, cond f5 (.bool true) undef, cond f6 (.bool true) undef, cond f7 (.agg #[.string K.group, .string K.artifact, .string K.type, .string K.classifier, .string xc, .int .i64 sc]) undef, cond f8 (.bool pm) undef, cond f9 (.bool pm) undef], []⟩
def pinS1J (K : Key) (xc : S) (sc : Int) (pm : Bool) (p9 t2 : Nat) (w W5 : World) (x0 x1 x2 x4 x5 x6 x7 x8 x9 x10 x11 x12 x13 x14 x15 x16 x17 x18 x19 x20 x21 x22 x23 x24 x25 x26 x27 x28 x29 x30 x31 x32 x33 x34 x35 x36 x37 x38 x39 x40 x41 : Value) (listed : Array Bool) (atx : Act) (w' : World) : Prop :=
  ∃ (f0 f1 f2 f3 f4 f5 f6 f7 f8 f9 f10 f11 : Bool) , listed = #[f0, f1, f2, f3, f4, f5, f6, f7, f8, f9, f10, f11] ∧ atx = pinS1Upd K xc sc pm x0 x1 x2 x4 x5 x6 x7 x8 x9 x10 x11 x12 x13 x14 x15 x16 x17 x18 x19 x20 x21 x22 x23 x24 x25 x26 x27 x28 x29 x30 x31 x32 x33 x34 x35 x36 x37 x38 x39 x40 x41 f0 f1 f2 f3 f4 f5 f6 f7 f8 f9 f10 f11  ∧ Hid (f10 = true → f0 = true ∧ f8 = true) ∧ Hid (f8 = true → f7 = true) ∧ Below w.heap.size w w' ∧ W5.heap.size ≤ w'.heap.size ∧ (∀ o, w'.cell? ⟨p9, o, none⟩ = W5.cell? ⟨p9, o, none⟩) ∧ Box w' t2 (cond f10 [.string K.group, .string K.artifact, .string K.type, .string K.classifier, .string xc, .int .i64 sc] [.string ⟨#[]⟩, .string ⟨#[]⟩, .string ⟨#[]⟩, .string ⟨#[]⟩, .string ⟨#[]⟩, .int .i64 0])
set_option maxRecDepth 100000 in
set_option maxHeartbeats 8000000 in
theorem pin_any (s : S) (m : Int) (w : World) (hs : s.size ≤ 1000000) (hm : w.cell? ⟨0, 0, none⟩ = some (.int .i64 m)) : Calls Tryz.prog 30 #[.string s] w (PinOut w (pinP s.data.toList)) := by
  have hw0 : 0 < w.heap.size := World.block_lt_of_cell? w _ hm
  have HM := Lib.hid hm
  have HS := Lib.hid hs
  clear hm hs
  go_enter Tryz.func30, Tryz.ntmps30
  go_upto_region 1 with fail
  refine wp_world ?_
  intro W hW
  have x2 : Box W w.heap.size [.string ⟨#[]⟩, .string ⟨#[]⟩, .string ⟨#[]⟩, .string ⟨#[]⟩, .string ⟨#[]⟩, .int .i64 0] := by rw [hW]; exact Box.new w [.string ⟨#[]⟩, .string ⟨#[]⟩, .string ⟨#[]⟩, .string ⟨#[]⟩, .string ⟨#[]⟩, .int .i64 0] _ _ rfl
  have hb : Below w.heap.size w W := by rw [hW]; exact (Below.refl _ w).alloc (Nat.le_refl _) _
  clear hW
  have HX := Lib.hid x2
  have HB := Lib.hid hb
  have s0 := hb.size
  have hmW := (hb.cell (p := ⟨0, 0, none⟩) (by exact hw0)).trans HM.out
  have HSP := Lib.hid (split_any 32 s m W HS.out hmW)
  clear x2 hb hmW
  go_wp2_with fail
  refine HSP.out.mono ?_
  rintro e w1 ⟨v, rfl, ho, hb1⟩
  obtain ⟨g, cap, rfl, hg, hc⟩ := ho.strs (piecesS_ne _ _)
  have HX1 := Lib.hid (HX.out.below hb1 HX.out.lt)
  have HB1 := Lib.hid (HB.out.trans (hb1.mono s0))
  have s1 := HB1.out.size
  have hne : ¬ g = w.heap.size := by have := (ho.lt g rfl).1; have := HX.out.lt; omega
  clear ho hb1 HSP HX HB
  by_cases hl : (piecesS 32 s.data.toList).length = 4
  rotate_left
  · have HN : Hid (pinP s.data.toList = none) := pinP_no (by simpa [piecesS] using hl)
    have hlI : (((piecesS 32 s.data.toList).length : Int) != 4) = true := by rw [bne_iff_ne]; omega
    have hlJ : (((piecesS 32 s.data.toList).length : Int) == 4) = false := by rw [beq_eq_false_iff_ne]; omega
    clear hl hc
    have u0 := HX1.out.free 0
    have z0 := HX1.out.cell 0 _ rfl
    have u1 := HX1.out.free 1
    have z1 := HX1.out.cell 1 _ rfl
    have u2 := HX1.out.free 2
    have z2 := HX1.out.cell 2 _ rfl
    have u3 := HX1.out.free 3
    have z3 := HX1.out.cell 3 _ rfl
    have u4 := HX1.out.free 4
    have z4 := HX1.out.cell 4 _ rfl
    have u5 := HX1.out.free 5
    have z5 := HX1.out.cell 5 _ rfl
    have lz := HX1.out.lt
    generalize (piecesS 32 s.data.toList).length = n at *
    go_wp2
    refine bodyPost_ret (v := .tuple #[.agg #[.string ⟨#[]⟩, .string ⟨#[]⟩, .string ⟨#[]⟩, .string ⟨#[]⟩, .string ⟨#[]⟩, .int .i64 0], .bool false]) (by simp [results, Tryz.results30, go_sem, z0, z1, z2, z3, z4, z5]) rfl ?_
    rw [HN.out]
    exact PinOut.no ((((((HB1.out.setCell (by simp) _).setCell (by simp) _).setCell (by simp) _).setCell (by simp) _).setCell (by simp) _).setCell (by simp) _)
  · obtain ⟨pa, pb, pc, pd, hp⟩ := four (l := piecesB 32 s.data.toList) (by simpa [piecesS] using hl)
    have hps : piecesS 32 s.data.toList = [bs pa, bs pb, bs pc, bs pd] := by unfold piecesS; rw [hp]; rfl
    rw [hps] at hc
    rw [hps]
    have HSB : Hid ((bs pb).size ≤ 1000000) := by
      have h1 := piece_len 32 s.data.toList pb (by rw [hp]; simp)
      have h2 : s.data.toList.length = s.size := size_data _
      have h3 := HS.out
      show _ ≤ _
      rw [bs_size]; omega
    have HSC : Hid ((bs pc).size ≤ 9223372036854775807) := pieces_sm HS.out (by rw [hp]; simp)
    have k0 := hc 0 _ rfl
    have k1 := hc 1 _ rfl
    have k2 := hc 2 _ rfl
    have k3 := hc 3 _ rfl
    clear hl hc hps
    by_cases hpa : pa = pinW
    rotate_left
    · have HN := Lib.hid (pinP_not hp hpa)
      have he : ((bs pa).toList == [112, 105, 110]) = false := by rw [str_lit, bs_data]; exact decide_eq_false hpa
      have he2 : ((bs pa).toList != [112, 105, 110]) = true := by rw [bne, he]; rfl
      clear hpa hp
      have u0 := HX1.out.free 0
      have z0 := HX1.out.cell 0 _ rfl
      have u1 := HX1.out.free 1
      have z1 := HX1.out.cell 1 _ rfl
      have u2 := HX1.out.free 2
      have z2 := HX1.out.cell 2 _ rfl
      have u3 := HX1.out.free 3
      have z3 := HX1.out.cell 3 _ rfl
      have u4 := HX1.out.free 4
      have z4 := HX1.out.cell 4 _ rfl
      have u5 := HX1.out.free 5
      have z5 := HX1.out.cell 5 _ rfl
      have lz := HX1.out.lt
      generalize bs pa = xa at *
      go_wp2
      refine bodyPost_ret (v := .tuple #[.agg #[.string ⟨#[]⟩, .string ⟨#[]⟩, .string ⟨#[]⟩, .string ⟨#[]⟩, .string ⟨#[]⟩, .int .i64 0], .bool false]) (by simp [results, Tryz.results30, go_sem, z0, z1, z2, z3, z4, z5]) rfl ?_
      rw [HN.out]
      exact PinOut.no ((((((HB1.out.setCell (by simp) _).setCell (by simp) _).setCell (by simp) _).setCell (by simp) _).setCell (by simp) _).setCell (by simp) _)
    · subst hpa
      obtain ⟨HL1, HL2⟩ : Hid _ ∧ Hid _ := ⟨Lib.hid (pin_law hp).1, Lib.hid (pin_law hp).2⟩
      have he : ((bs pinW).toList == [112, 105, 110]) = true := by rw [str_lit, bs_data]; rfl
      have he2 : ((bs pinW).toList != [112, 105, 110]) = false := by rw [bne, he]; rfl
      have hmW := (HB1.out.cell (p := ⟨0, 0, none⟩) (by exact hw0)).trans HM.out
      have HPK := Lib.hid (parseKey_any (bs pb) m w1 HSB.out hmW)
      rw [bs_data] at HPK
      have HSW := Lib.hid (fun w => scope_any pd w)
      have HKS : Hid (keySm ((keyR pb).getD noKey)) := keyR_sm HSB.out
      clear hp hmW
      generalize bs pinW = xa at *
      generalize bs pb = xb at *
      generalize bs pc = xc at *
      generalize bs pd = xd at *
      generalize keyR pb = R at *
      generalize scopeW pd = sc at *
      go_wp2_with fail
      refine HPK.out.mono ?_
      rintro e w2 ⟨rfl, hb2⟩
      have HX2 := Lib.hid (HX1.out.below hb2 HX1.out.lt)
      have HB2 := Lib.hid (HB1.out.trans (hb2.mono s1))
      have s2 := HB2.out.size
      have q1 := (hb2.cell (p := ⟨g, 1, none⟩) (by exact hg)).trans k1
      have q2 := (hb2.cell (p := ⟨g, 2, none⟩) (by exact hg)).trans k2
      have q3 := (hb2.cell (p := ⟨g, 3, none⟩) (by exact hg)).trans k3
      have hg2 : g < w2.heap.size := Nat.lt_of_lt_of_le hg hb2.size
      clear k0 k1 k2 k3 he he2 hb2 HX1 HPK
      obtain ⟨e1, he1⟩ : ∃ x : Int, x = if R.isSome then 0 else 1 := ⟨_, rfl⟩
      have HE1 := Lib.hid he1
      rw [← he1]
      clear he1
      obtain ⟨K, hK⟩ : ∃ x, x = R.getD noKey := ⟨_, rfl⟩
      rw [← hK] at HL1 HL2 HKS ⊢
      clear hK
      go_wp2_with fail
      refine (HSW.out _).mono ?_
      rintro e w3 ⟨rfl, rfl⟩
      go_upto_region 6 with fail
      refine wp_world ?_
      intro W4 hW4
      have x5 : Box W4 w2.heap.size [.string K.group, .string K.artifact, .string K.type, .string K.classifier] := by rw [hW4]; exact Box.new w2 [.string K.group, .string K.artifact, .string K.type, .string K.classifier] _ _ rfl
      have hb4 : Below w2.heap.size w2 W4 := by rw [hW4]; exact (Below.refl _ w2).alloc (Nat.le_refl _) _
      clear hW4
      have HX4 := Lib.hid (HX2.out.below hb4 HX2.out.lt)
      have HB4 := Lib.hid (HB2.out.trans (hb4.mono s2))
      have s4 := HB4.out.size
      have p2 := (hb4.cell (p := ⟨g, 2, none⟩) (by exact hg2)).trans q2
      have y0 := x5.cell 0 _ rfl
      have y1 := x5.cell 1 _ rfl
      have y2 := x5.cell 2 _ rfl
      have y3 := x5.cell 3 _ rfl
      have ly := x5.lt
      have hg4 : g < W4.heap.size := Nat.lt_of_lt_of_le hg2 hb4.size
      have hl2 : w.heap.size < W4.heap.size := HX4.out.lt
      clear q1 q2 q3 x5 hb4 HX2 HSW
      go_big_region
      go_upto_region 7 with fail
      refine wp_world ?_
      intro W5 hW5
      have x9 : Box W5 W4.heap.size [.string K.group, .string K.artifact, .string K.type, .string K.classifier, .string xc, .int .i64 sc] := by rw [hW5]; exact (Box.new W4 [.string K.group, .string K.artifact, .string K.type, .string K.classifier, .string xc, .int .i64 sc] _ _ rfl).drewN 1
      have hb5 : Below W4.heap.size W4 W5 := by rw [hW5]; exact belowN ((Below.refl _ W4).alloc (Nat.le_refl _) _) 1
      clear hW5
      have HX5 := Lib.hid (HX4.out.below hb5 HX4.out.lt)
      have HB5 := Lib.hid (HB4.out.trans (hb5.mono s4))
      have s5 := HB5.out.size
      have l9 := x9.lt
      have hpq : ¬ W4.heap.size = w.heap.size := by omega
      have HMP : Hid (∀ V, Calls Tryz.prog 37 #[.agg #[.string K.group, .string K.artifact, .string K.type, .string K.classifier, .string xc, .int .i64 sc]] V fun e w' => e = .returned (.bool (pinMay ⟨K, xc, sc⟩)) ∧ Below V.heap.size V w') := fun V => mayPin_any ⟨K, xc, sc⟩ V ⟨HKS.out, HSC.out⟩
      have x0 := x9.cell 0 _ rfl
      have x1 := x9.cell 1 _ rfl
      have x2 := x9.cell 2 _ rfl
      have x3 := x9.cell 3 _ rfl
      have x4 := x9.cell 4 _ rfl
      have x5 := x9.cell 5 _ rfl
      clear y0 y1 y2 y3 ly p2 hg hg2 hg4 hne x9 hb5 HX4
      generalize hpm : pinMay ⟨K, xc, sc⟩ = pm at *
      clear hpm
      have ht2 : w.heap.size ≤ w.heap.size := Nat.le_refl _
      cases R with
      | none =>
        obtain rfl : e1 = 1 := HE1.out
        go_wp2_with fail
        refine wp_region_flags0 (pinNJ K xc sc pm W4.heap.size w.heap.size w W5 _ _ _ _ _ _ _ _ _ _ _ _ _ _ _ _ _ _ _ _ _ _ _ _ _ _ _ _ _ _ _ _ _ _ _ _ _ _ _ _ _ _ _ _ _) (by kernel_rfl) 12 rfl (by kernel_rfl) ⟨false, false, false, false, false, false, false, false, false, false, false, false, rfl, rfl, Lib.hid (by simp), Lib.hid (by simp), belowN HB5.out 1, Nat.le_refl _, fun _ => rfl, HX5.out.drewN 1⟩ ?fin ?step
        case fin =>
          rintro a' w' ⟨f0, f1, f2, f3, f4, f5, f6, f7, f8, f9, f10, f11, hl, rfl, c10, c8, hB, hs, hc, hx⟩
          have hl' : [true, true, true, true, true, true, true, true, true, true, true, true] = [f0, f1, f2, f3, f4, f5, f6, f7, f8, f9, f10, f11] := congrArg Array.toList hl
          simp only [List.cons.injEq, and_true] at hl'
          obtain ⟨rfl, rfl, rfl, rfl, rfl, rfl, rfl, rfl, rfl, rfl, rfl, rfl⟩ := hl'
          unfold pinNUpd
          simp only [cond_true]
          have HXX := Lib.hid hx
          have HBB := Lib.hid hB
          clear c10 c8 hB hs hc hx
          have z0 := HXX.out.cell 0 _ rfl
          have z1 := HXX.out.cell 1 _ rfl
          have z2 := HXX.out.cell 2 _ rfl
          have z3 := HXX.out.cell 3 _ rfl
          have z4 := HXX.out.cell 4 _ rfl
          have z5 := HXX.out.cell 5 _ rfl
          go_wp2
          refine bodyPost_ret (v := .tuple #[.agg #[.string K.group, .string K.artifact, .string K.type, .string K.classifier, .string xc, .int .i64 sc], .bool false]) (by simp [results, Tryz.results30, go_sem, z0, z1, z2, z3, z4, z5]) rfl ?_
          refine ⟨⟨K, xc, sc⟩, ?_, fun q h => (HL2.out q h).symm, HBB.out⟩
          rw [HL1.out]
          rfl
        case step =>
          rintro listed a' w' ⟨f0, f1, f2, f3, f4, f5, f6, f7, f8, f9, f10, f11, rfl, rfl, c10, c8, hB, hs, hc, hx⟩ i hi
          rw [mem_ready] at hi
          obtain ⟨hu, o, ho, ha⟩ := hi
          have hi8 : i < 12 := (Array.getElem?_eq_some_iff.1 ho).1
          rcases (by omega : i = 0 ∨ i = 1 ∨ i = 2 ∨ i = 3 ∨ i = 4 ∨ i = 5 ∨ i = 6 ∨ i = 7 ∨ i = 8 ∨ i = 9 ∨ i = 10 ∨ i = 11) with rfl | rfl | rfl | rfl | rfl | rfl | rfl | rfl | rfl | rfl | rfl | rfl
          · have ho' := ho
            simp at hu ho
            subst hu ho
            clear ha
            have e10 : f10 = false := Bool.eq_false_iff.2 fun h => (Bool.false_ne_true (c10.out h).1)
            subst e10
            have g0 := (hc 0).trans x0
            have g1 := (hc 1).trans x1
            have g2 := (hc 2).trans x2
            have g3 := (hc 3).trans x3
            have g4 := (hc 4).trans x4
            have g5 := (hc 5).trans x5
            refine .inl ?_
            unfold pinNUpd Oper.wp
            go_simp
            exact ⟨true, f1, f2, f3, f4, f5, f6, f7, f8, f9, false, f11, rfl, rfl, Lib.hid (by simp), c8, hB, hs, hc, hx⟩
          · have ho' := ho
            simp at hu ho
            subst hu ho
            clear ha
            refine .inl ?_
            unfold pinNUpd Oper.wp
            go_simp
            exact ⟨f0, true, f2, f3, f4, f5, f6, f7, f8, f9, f10, f11, rfl, rfl, c10, c8, hB, hs, hc, hx⟩
          · have ho' := ho
            simp at hu ho
            subst hu ho
            simp [Region.binds] at ha
            obtain rfl : f1 = true := by first | exact ha | exact ha.1 | exact ha.2.1 | exact ha.2.2.1 | exact ha.2.2.2.1 | exact ha.2.2.2.2.1 | exact ha.2.2.2.2.2.1 | exact ha.2.2.2.2.2.2.1 | exact ha.2.2.2.2.2.2.2.1 | exact ha.2.2.2.2.2.2.2.2.1 | exact ha.2.2.2.2.2.2.2.2.2.1 | exact ha.2.2.2.2.2.2.2.2.2.2.1 | exact ha.2.2.2.2.2.2.2.2.2.2.2.1 | exact ha.2.2.2.2.2.2.2.2.2.2.2.2.1 | exact ha.2 | exact ha.2.2 | exact ha.2.2.2 | exact ha.2.2.2.2 | exact ha.2.2.2.2.2 | exact ha.2.2.2.2.2.2 | exact ha.2.2.2.2.2.2.2 | exact ha.2.2.2.2.2.2.2.2 | exact ha.2.2.2.2.2.2.2.2.2 | exact ha.2.2.2.2.2.2.2.2.2.2 | exact ha.2.2.2.2.2.2.2.2.2.2.2 | exact ha.2.2.2.2.2.2.2.2.2.2.2.2 | exact ha.2.2.2.2.2.2.2.2.2.2.2.2.2
            clear ha
            refine .inl ?_
            unfold pinNUpd Oper.wp
            go_simp
            exact ⟨f0, true, true, f3, f4, f5, f6, f7, f8, f9, f10, f11, rfl, rfl, c10, c8, hB, hs, hc, hx⟩
          · have ho' := ho
            simp at hu ho
            subst hu ho
            simp [Region.binds] at ha
            obtain rfl : f2 = true := by first | exact ha | exact ha.1 | exact ha.2.1 | exact ha.2.2.1 | exact ha.2.2.2.1 | exact ha.2.2.2.2.1 | exact ha.2.2.2.2.2.1 | exact ha.2.2.2.2.2.2.1 | exact ha.2.2.2.2.2.2.2.1 | exact ha.2.2.2.2.2.2.2.2.1 | exact ha.2.2.2.2.2.2.2.2.2.1 | exact ha.2.2.2.2.2.2.2.2.2.2.1 | exact ha.2.2.2.2.2.2.2.2.2.2.2.1 | exact ha.2.2.2.2.2.2.2.2.2.2.2.2.1 | exact ha.2 | exact ha.2.2 | exact ha.2.2.2 | exact ha.2.2.2.2 | exact ha.2.2.2.2.2 | exact ha.2.2.2.2.2.2 | exact ha.2.2.2.2.2.2.2 | exact ha.2.2.2.2.2.2.2.2 | exact ha.2.2.2.2.2.2.2.2.2 | exact ha.2.2.2.2.2.2.2.2.2.2 | exact ha.2.2.2.2.2.2.2.2.2.2.2 | exact ha.2.2.2.2.2.2.2.2.2.2.2.2 | exact ha.2.2.2.2.2.2.2.2.2.2.2.2.2
            clear ha
            refine .inl ?_
            unfold pinNUpd Oper.wp
            go_simp
            exact ⟨f0, f1, true, true, f4, f5, f6, f7, f8, f9, f10, f11, rfl, rfl, c10, c8, hB, hs, hc, hx⟩
          · have ho' := ho
            simp at hu ho
            subst hu ho
            simp [Region.binds] at ha
            obtain rfl : f3 = true := by first | exact ha | exact ha.1 | exact ha.2.1 | exact ha.2.2.1 | exact ha.2.2.2.1 | exact ha.2.2.2.2.1 | exact ha.2.2.2.2.2.1 | exact ha.2.2.2.2.2.2.1 | exact ha.2.2.2.2.2.2.2.1 | exact ha.2.2.2.2.2.2.2.2.1 | exact ha.2.2.2.2.2.2.2.2.2.1 | exact ha.2.2.2.2.2.2.2.2.2.2.1 | exact ha.2.2.2.2.2.2.2.2.2.2.2.1 | exact ha.2.2.2.2.2.2.2.2.2.2.2.2.1 | exact ha.2 | exact ha.2.2 | exact ha.2.2.2 | exact ha.2.2.2.2 | exact ha.2.2.2.2.2 | exact ha.2.2.2.2.2.2 | exact ha.2.2.2.2.2.2.2 | exact ha.2.2.2.2.2.2.2.2 | exact ha.2.2.2.2.2.2.2.2.2 | exact ha.2.2.2.2.2.2.2.2.2.2 | exact ha.2.2.2.2.2.2.2.2.2.2.2 | exact ha.2.2.2.2.2.2.2.2.2.2.2.2 | exact ha.2.2.2.2.2.2.2.2.2.2.2.2.2
            clear ha
            unfold pinNUpd
            refine wpOp_skip ho' (by rfl) ?_
            simp only [Act.put, List.setIfInBounds_toArray, List.set_cons_succ, List.set_cons_zero]
            exact ⟨f0, f1, f2, true, true, f5, f6, f7, f8, f9, f10, f11, rfl, rfl, c10, c8, hB, hs, hc, hx⟩
          · have ho' := ho
            simp at hu ho
            subst hu ho
            simp [Region.binds] at ha
            obtain rfl : f3 = true := by first | exact ha | exact ha.1 | exact ha.2.1 | exact ha.2.2.1 | exact ha.2.2.2.1 | exact ha.2.2.2.2.1 | exact ha.2.2.2.2.2.1 | exact ha.2.2.2.2.2.2.1 | exact ha.2.2.2.2.2.2.2.1 | exact ha.2.2.2.2.2.2.2.2.1 | exact ha.2.2.2.2.2.2.2.2.2.1 | exact ha.2.2.2.2.2.2.2.2.2.2.1 | exact ha.2.2.2.2.2.2.2.2.2.2.2.1 | exact ha.2.2.2.2.2.2.2.2.2.2.2.2.1 | exact ha.2 | exact ha.2.2 | exact ha.2.2.2 | exact ha.2.2.2.2 | exact ha.2.2.2.2.2 | exact ha.2.2.2.2.2.2 | exact ha.2.2.2.2.2.2.2 | exact ha.2.2.2.2.2.2.2.2 | exact ha.2.2.2.2.2.2.2.2.2 | exact ha.2.2.2.2.2.2.2.2.2.2 | exact ha.2.2.2.2.2.2.2.2.2.2.2 | exact ha.2.2.2.2.2.2.2.2.2.2.2.2 | exact ha.2.2.2.2.2.2.2.2.2.2.2.2.2
            obtain rfl : f4 = true := by first | exact ha | exact ha.1 | exact ha.2.1 | exact ha.2.2.1 | exact ha.2.2.2.1 | exact ha.2.2.2.2.1 | exact ha.2.2.2.2.2.1 | exact ha.2.2.2.2.2.2.1 | exact ha.2.2.2.2.2.2.2.1 | exact ha.2.2.2.2.2.2.2.2.1 | exact ha.2.2.2.2.2.2.2.2.2.1 | exact ha.2.2.2.2.2.2.2.2.2.2.1 | exact ha.2.2.2.2.2.2.2.2.2.2.2.1 | exact ha.2.2.2.2.2.2.2.2.2.2.2.2.1 | exact ha.2 | exact ha.2.2 | exact ha.2.2.2 | exact ha.2.2.2.2 | exact ha.2.2.2.2.2 | exact ha.2.2.2.2.2.2 | exact ha.2.2.2.2.2.2.2 | exact ha.2.2.2.2.2.2.2.2 | exact ha.2.2.2.2.2.2.2.2.2 | exact ha.2.2.2.2.2.2.2.2.2.2 | exact ha.2.2.2.2.2.2.2.2.2.2.2 | exact ha.2.2.2.2.2.2.2.2.2.2.2.2 | exact ha.2.2.2.2.2.2.2.2.2.2.2.2.2
            clear ha
            refine .inl ?_
            unfold pinNUpd Oper.wp
            go_simp
            exact ⟨f0, f1, f2, true, true, true, f6, f7, f8, f9, f10, f11, rfl, rfl, c10, c8, hB, hs, hc, hx⟩
          · have ho' := ho
            simp at hu ho
            subst hu ho
            simp [Region.binds] at ha
            obtain rfl : f5 = true := by first | exact ha | exact ha.1 | exact ha.2.1 | exact ha.2.2.1 | exact ha.2.2.2.1 | exact ha.2.2.2.2.1 | exact ha.2.2.2.2.2.1 | exact ha.2.2.2.2.2.2.1 | exact ha.2.2.2.2.2.2.2.1 | exact ha.2.2.2.2.2.2.2.2.1 | exact ha.2.2.2.2.2.2.2.2.2.1 | exact ha.2.2.2.2.2.2.2.2.2.2.1 | exact ha.2.2.2.2.2.2.2.2.2.2.2.1 | exact ha.2.2.2.2.2.2.2.2.2.2.2.2.1 | exact ha.2 | exact ha.2.2 | exact ha.2.2.2 | exact ha.2.2.2.2 | exact ha.2.2.2.2.2 | exact ha.2.2.2.2.2.2 | exact ha.2.2.2.2.2.2.2 | exact ha.2.2.2.2.2.2.2.2 | exact ha.2.2.2.2.2.2.2.2.2 | exact ha.2.2.2.2.2.2.2.2.2.2 | exact ha.2.2.2.2.2.2.2.2.2.2.2 | exact ha.2.2.2.2.2.2.2.2.2.2.2.2 | exact ha.2.2.2.2.2.2.2.2.2.2.2.2.2
            clear ha
            refine .inl ?_
            unfold pinNUpd Oper.wp
            go_simp
            exact ⟨f0, f1, f2, f3, f4, true, true, f7, f8, f9, f10, f11, rfl, rfl, c10, c8, hB, hs, hc, hx⟩
          · have ho' := ho
            simp at hu ho
            subst hu ho
            simp [Region.binds] at ha
            obtain rfl : f6 = true := by first | exact ha | exact ha.1 | exact ha.2.1 | exact ha.2.2.1 | exact ha.2.2.2.1 | exact ha.2.2.2.2.1 | exact ha.2.2.2.2.2.1 | exact ha.2.2.2.2.2.2.1 | exact ha.2.2.2.2.2.2.2.1 | exact ha.2.2.2.2.2.2.2.2.1 | exact ha.2.2.2.2.2.2.2.2.2.1 | exact ha.2.2.2.2.2.2.2.2.2.2.1 | exact ha.2.2.2.2.2.2.2.2.2.2.2.1 | exact ha.2.2.2.2.2.2.2.2.2.2.2.2.1 | exact ha.2 | exact ha.2.2 | exact ha.2.2.2 | exact ha.2.2.2.2 | exact ha.2.2.2.2.2 | exact ha.2.2.2.2.2.2 | exact ha.2.2.2.2.2.2.2 | exact ha.2.2.2.2.2.2.2.2 | exact ha.2.2.2.2.2.2.2.2.2 | exact ha.2.2.2.2.2.2.2.2.2.2 | exact ha.2.2.2.2.2.2.2.2.2.2.2 | exact ha.2.2.2.2.2.2.2.2.2.2.2.2 | exact ha.2.2.2.2.2.2.2.2.2.2.2.2.2
            clear ha
            have e8 : f8 = false := Bool.eq_false_iff.2 fun h => (Bool.false_ne_true (c8.out h))
            subst e8
            have e10 : f10 = false := Bool.eq_false_iff.2 fun h => (Bool.false_ne_true (c10.out h).2)
            subst e10
            unfold pinNUpd
            refine wpOp_skip ho' (by rfl) ?_
            simp only [Act.put, List.setIfInBounds_toArray, List.set_cons_succ, List.set_cons_zero]
            exact ⟨f0, f1, f2, f3, f4, f5, true, true, false, f9, false, f11, rfl, rfl, Lib.hid (by simp), Lib.hid (by simp), hB, hs, hc, hx⟩
          · have ho' := ho
            simp at hu ho
            subst hu ho
            simp [Region.binds] at ha
            obtain rfl : f6 = true := by first | exact ha | exact ha.1 | exact ha.2.1 | exact ha.2.2.1 | exact ha.2.2.2.1 | exact ha.2.2.2.2.1 | exact ha.2.2.2.2.2.1 | exact ha.2.2.2.2.2.2.1 | exact ha.2.2.2.2.2.2.2.1 | exact ha.2.2.2.2.2.2.2.2.1 | exact ha.2.2.2.2.2.2.2.2.2.1 | exact ha.2.2.2.2.2.2.2.2.2.2.1 | exact ha.2.2.2.2.2.2.2.2.2.2.2.1 | exact ha.2.2.2.2.2.2.2.2.2.2.2.2.1 | exact ha.2 | exact ha.2.2 | exact ha.2.2.2 | exact ha.2.2.2.2 | exact ha.2.2.2.2.2 | exact ha.2.2.2.2.2.2 | exact ha.2.2.2.2.2.2.2 | exact ha.2.2.2.2.2.2.2.2 | exact ha.2.2.2.2.2.2.2.2.2 | exact ha.2.2.2.2.2.2.2.2.2.2 | exact ha.2.2.2.2.2.2.2.2.2.2.2 | exact ha.2.2.2.2.2.2.2.2.2.2.2.2 | exact ha.2.2.2.2.2.2.2.2.2.2.2.2.2
            obtain rfl : f7 = true := by first | exact ha | exact ha.1 | exact ha.2.1 | exact ha.2.2.1 | exact ha.2.2.2.1 | exact ha.2.2.2.2.1 | exact ha.2.2.2.2.2.1 | exact ha.2.2.2.2.2.2.1 | exact ha.2.2.2.2.2.2.2.1 | exact ha.2.2.2.2.2.2.2.2.1 | exact ha.2.2.2.2.2.2.2.2.2.1 | exact ha.2.2.2.2.2.2.2.2.2.2.1 | exact ha.2.2.2.2.2.2.2.2.2.2.2.1 | exact ha.2.2.2.2.2.2.2.2.2.2.2.2.1 | exact ha.2 | exact ha.2.2 | exact ha.2.2.2 | exact ha.2.2.2.2 | exact ha.2.2.2.2.2 | exact ha.2.2.2.2.2.2 | exact ha.2.2.2.2.2.2.2 | exact ha.2.2.2.2.2.2.2.2 | exact ha.2.2.2.2.2.2.2.2.2 | exact ha.2.2.2.2.2.2.2.2.2.2 | exact ha.2.2.2.2.2.2.2.2.2.2.2 | exact ha.2.2.2.2.2.2.2.2.2.2.2.2 | exact ha.2.2.2.2.2.2.2.2.2.2.2.2.2
            clear ha
            have e10 : f10 = false := Bool.eq_false_iff.2 fun h => (Bool.false_ne_true (c10.out h).2)
            subst e10
            unfold pinNUpd
            refine wpOp_skip ho' (by rfl) ?_
            simp only [Act.put, List.setIfInBounds_toArray, List.set_cons_succ, List.set_cons_zero]
            exact ⟨f0, f1, f2, f3, f4, f5, true, true, true, f9, false, f11, rfl, rfl, Lib.hid (by simp), Lib.hid (by simp), hB, hs, hc, hx⟩
          · have ho' := ho
            simp at hu ho
            subst hu ho
            simp [Region.binds] at ha
            obtain rfl : f6 = true := by first | exact ha | exact ha.1 | exact ha.2.1 | exact ha.2.2.1 | exact ha.2.2.2.1 | exact ha.2.2.2.2.1 | exact ha.2.2.2.2.2.1 | exact ha.2.2.2.2.2.2.1 | exact ha.2.2.2.2.2.2.2.1 | exact ha.2.2.2.2.2.2.2.2.1 | exact ha.2.2.2.2.2.2.2.2.2.1 | exact ha.2.2.2.2.2.2.2.2.2.2.1 | exact ha.2.2.2.2.2.2.2.2.2.2.2.1 | exact ha.2.2.2.2.2.2.2.2.2.2.2.2.1 | exact ha.2 | exact ha.2.2 | exact ha.2.2.2 | exact ha.2.2.2.2 | exact ha.2.2.2.2.2 | exact ha.2.2.2.2.2.2 | exact ha.2.2.2.2.2.2.2 | exact ha.2.2.2.2.2.2.2.2 | exact ha.2.2.2.2.2.2.2.2.2 | exact ha.2.2.2.2.2.2.2.2.2.2 | exact ha.2.2.2.2.2.2.2.2.2.2.2 | exact ha.2.2.2.2.2.2.2.2.2.2.2.2 | exact ha.2.2.2.2.2.2.2.2.2.2.2.2.2
            obtain rfl : f8 = true := by first | exact ha | exact ha.1 | exact ha.2.1 | exact ha.2.2.1 | exact ha.2.2.2.1 | exact ha.2.2.2.2.1 | exact ha.2.2.2.2.2.1 | exact ha.2.2.2.2.2.2.1 | exact ha.2.2.2.2.2.2.2.1 | exact ha.2.2.2.2.2.2.2.2.1 | exact ha.2.2.2.2.2.2.2.2.2.1 | exact ha.2.2.2.2.2.2.2.2.2.2.1 | exact ha.2.2.2.2.2.2.2.2.2.2.2.1 | exact ha.2.2.2.2.2.2.2.2.2.2.2.2.1 | exact ha.2 | exact ha.2.2 | exact ha.2.2.2 | exact ha.2.2.2.2 | exact ha.2.2.2.2.2 | exact ha.2.2.2.2.2.2 | exact ha.2.2.2.2.2.2.2 | exact ha.2.2.2.2.2.2.2.2 | exact ha.2.2.2.2.2.2.2.2.2 | exact ha.2.2.2.2.2.2.2.2.2.2 | exact ha.2.2.2.2.2.2.2.2.2.2.2 | exact ha.2.2.2.2.2.2.2.2.2.2.2.2 | exact ha.2.2.2.2.2.2.2.2.2.2.2.2.2
            clear ha
            refine .inl ?_
            unfold pinNUpd Oper.wp
            go_simp
            exact ⟨f0, f1, f2, f3, f4, f5, true, f7, true, true, f10, f11, rfl, rfl, c10, c8, hB, hs, hc, hx⟩
          · have ho' := ho
            simp at hu ho
            subst hu ho
            simp [Region.binds] at ha
            obtain rfl : f0 = true := by first | exact ha | exact ha.1 | exact ha.2.1 | exact ha.2.2.1 | exact ha.2.2.2.1 | exact ha.2.2.2.2.1 | exact ha.2.2.2.2.2.1 | exact ha.2.2.2.2.2.2.1 | exact ha.2.2.2.2.2.2.2.1 | exact ha.2.2.2.2.2.2.2.2.1 | exact ha.2.2.2.2.2.2.2.2.2.1 | exact ha.2.2.2.2.2.2.2.2.2.2.1 | exact ha.2.2.2.2.2.2.2.2.2.2.2.1 | exact ha.2.2.2.2.2.2.2.2.2.2.2.2.1 | exact ha.2 | exact ha.2.2 | exact ha.2.2.2 | exact ha.2.2.2.2 | exact ha.2.2.2.2.2 | exact ha.2.2.2.2.2.2 | exact ha.2.2.2.2.2.2.2 | exact ha.2.2.2.2.2.2.2.2 | exact ha.2.2.2.2.2.2.2.2.2 | exact ha.2.2.2.2.2.2.2.2.2.2 | exact ha.2.2.2.2.2.2.2.2.2.2.2 | exact ha.2.2.2.2.2.2.2.2.2.2.2.2 | exact ha.2.2.2.2.2.2.2.2.2.2.2.2.2
            obtain rfl : f8 = true := by first | exact ha | exact ha.1 | exact ha.2.1 | exact ha.2.2.1 | exact ha.2.2.2.1 | exact ha.2.2.2.2.1 | exact ha.2.2.2.2.2.1 | exact ha.2.2.2.2.2.2.1 | exact ha.2.2.2.2.2.2.2.1 | exact ha.2.2.2.2.2.2.2.2.1 | exact ha.2.2.2.2.2.2.2.2.2.1 | exact ha.2.2.2.2.2.2.2.2.2.2.1 | exact ha.2.2.2.2.2.2.2.2.2.2.2.1 | exact ha.2.2.2.2.2.2.2.2.2.2.2.2.1 | exact ha.2 | exact ha.2.2 | exact ha.2.2.2 | exact ha.2.2.2.2 | exact ha.2.2.2.2.2 | exact ha.2.2.2.2.2.2 | exact ha.2.2.2.2.2.2.2 | exact ha.2.2.2.2.2.2.2.2 | exact ha.2.2.2.2.2.2.2.2.2 | exact ha.2.2.2.2.2.2.2.2.2.2 | exact ha.2.2.2.2.2.2.2.2.2.2.2 | exact ha.2.2.2.2.2.2.2.2.2.2.2.2 | exact ha.2.2.2.2.2.2.2.2.2.2.2.2.2
            clear ha
            have HC := Lib.hid hc
            have HBh := Lib.hid hB
            have HXh := Lib.hid hx
            clear hc hB hx x0 x1 x2 x3 x4 x5
            unfold pinNUpd
            refine wpOp_do ho' (by rfl) ?_
            refine wp_store_own 33 (.tmp 2) (.tmp 42) rfl w.heap.size _ #[.string K.group, .string K.artifact, .string K.type, .string K.classifier, .string xc, .int .i64 sc] rfl rfl HXh.out (by rfl) size_pin6 (by simp [Value.oneCell']) ?_
            intro V vx vB vs vc
            simp only [Act.put, List.setIfInBounds_toArray, List.set_cons_succ, List.set_cons_zero]
            exact ⟨true, f1, f2, f3, f4, f5, f6, f7, true, f9, true, f11, rfl, rfl, Lib.hid (by simp), c8, vB _ _ ht2 HBh.out, Nat.le_trans hs (Nat.le_of_eq vs.symm), fun o => (vc _ o hpq).trans (HC.out o), vx⟩
          · have ho' := ho
            simp at hu ho
            subst hu ho
            simp [Region.binds] at ha
            obtain rfl : f9 = true := by first | exact ha | exact ha.1 | exact ha.2.1 | exact ha.2.2.1 | exact ha.2.2.2.1 | exact ha.2.2.2.2.1 | exact ha.2.2.2.2.2.1 | exact ha.2.2.2.2.2.2.1 | exact ha.2.2.2.2.2.2.2.1 | exact ha.2.2.2.2.2.2.2.2.1 | exact ha.2.2.2.2.2.2.2.2.2.1 | exact ha.2.2.2.2.2.2.2.2.2.2.1 | exact ha.2.2.2.2.2.2.2.2.2.2.2.1 | exact ha.2.2.2.2.2.2.2.2.2.2.2.2.1 | exact ha.2 | exact ha.2.2 | exact ha.2.2.2 | exact ha.2.2.2.2 | exact ha.2.2.2.2.2 | exact ha.2.2.2.2.2.2 | exact ha.2.2.2.2.2.2.2 | exact ha.2.2.2.2.2.2.2.2 | exact ha.2.2.2.2.2.2.2.2.2 | exact ha.2.2.2.2.2.2.2.2.2.2 | exact ha.2.2.2.2.2.2.2.2.2.2.2 | exact ha.2.2.2.2.2.2.2.2.2.2.2.2 | exact ha.2.2.2.2.2.2.2.2.2.2.2.2.2
            clear ha
            refine .inl ?_
            unfold pinNUpd Oper.wp
            go_simp
            exact ⟨f0, f1, f2, f3, f4, f5, f6, f7, f8, true, f10, true, rfl, rfl, c10, c8, hB, hs, hc, hx⟩
      | some k =>
        obtain rfl : e1 = 0 := HE1.out
        by_cases hsc : sc = 0
        · subst hsc
          have hd0 : decide ((0 : Int) ≠ 0) = false := rfl
          go_wp2_with fail
          refine wp_region_flags0 (pinS0J K xc 0 pm W4.heap.size w.heap.size w W5 _ _ _ _ _ _ _ _ _ _ _ _ _ _ _ _ _ _ _ _ _ _ _ _ _ _ _ _ _ _ _ _ _ _ _ _ _ _ _ _ _ _ _ _) (by kernel_rfl) 12 rfl (by kernel_rfl) ⟨false, false, false, false, false, false, false, false, false, false, false, false, rfl, rfl, Lib.hid (by simp), Lib.hid (by simp), belowN HB5.out 1, Nat.le_refl _, fun _ => rfl, HX5.out.drewN 1⟩ ?fin ?step
          case fin =>
            rintro a' w' ⟨f0, f1, f2, f3, f4, f5, f6, f7, f8, f9, f10, f11, hl, rfl, c10, c8, hB, hs, hc, hx⟩
            have hl' : [true, true, true, true, true, true, true, true, true, true, true, true] = [f0, f1, f2, f3, f4, f5, f6, f7, f8, f9, f10, f11] := congrArg Array.toList hl
            simp only [List.cons.injEq, and_true] at hl'
            obtain ⟨rfl, rfl, rfl, rfl, rfl, rfl, rfl, rfl, rfl, rfl, rfl, rfl⟩ := hl'
            unfold pinS0Upd
            simp only [cond_true]
            have HXX := Lib.hid hx
            have HBB := Lib.hid hB
            clear c10 c8 hB hs hc hx
            have z0 := HXX.out.cell 0 _ rfl
            have z1 := HXX.out.cell 1 _ rfl
            have z2 := HXX.out.cell 2 _ rfl
            have z3 := HXX.out.cell 3 _ rfl
            have z4 := HXX.out.cell 4 _ rfl
            have z5 := HXX.out.cell 5 _ rfl
            go_wp2
            refine bodyPost_ret (v := .tuple #[.agg #[.string K.group, .string K.artifact, .string K.type, .string K.classifier, .string xc, .int .i64 0], .bool false]) (by simp [results, Tryz.results30, go_sem, z0, z1, z2, z3, z4, z5]) rfl ?_
            refine ⟨⟨K, xc, 0⟩, ?_, fun q h => (HL2.out q h).symm, HBB.out⟩
            rw [HL1.out]
            simp
          case step =>
            rintro listed a' w' ⟨f0, f1, f2, f3, f4, f5, f6, f7, f8, f9, f10, f11, rfl, rfl, c10, c8, hB, hs, hc, hx⟩ i hi
            rw [mem_ready] at hi
            obtain ⟨hu, o, ho, ha⟩ := hi
            have hi8 : i < 12 := (Array.getElem?_eq_some_iff.1 ho).1
            rcases (by omega : i = 0 ∨ i = 1 ∨ i = 2 ∨ i = 3 ∨ i = 4 ∨ i = 5 ∨ i = 6 ∨ i = 7 ∨ i = 8 ∨ i = 9 ∨ i = 10 ∨ i = 11) with rfl | rfl | rfl | rfl | rfl | rfl | rfl | rfl | rfl | rfl | rfl | rfl
            · have ho' := ho
              simp at hu ho
              subst hu ho
              clear ha
              have e10 : f10 = false := Bool.eq_false_iff.2 fun h => (Bool.false_ne_true (c10.out h).1)
              subst e10
              have g0 := (hc 0).trans x0
              have g1 := (hc 1).trans x1
              have g2 := (hc 2).trans x2
              have g3 := (hc 3).trans x3
              have g4 := (hc 4).trans x4
              have g5 := (hc 5).trans x5
              refine .inl ?_
              unfold pinS0Upd Oper.wp
              go_simp
              exact ⟨true, f1, f2, f3, f4, f5, f6, f7, f8, f9, false, f11, rfl, rfl, Lib.hid (by simp), c8, hB, hs, hc, hx⟩
            · have ho' := ho
              simp at hu ho
              subst hu ho
              clear ha
              refine .inl ?_
              unfold pinS0Upd Oper.wp
              go_simp
              exact ⟨f0, true, f2, f3, f4, f5, f6, f7, f8, f9, f10, f11, rfl, rfl, c10, c8, hB, hs, hc, hx⟩
            · have ho' := ho
              simp at hu ho
              subst hu ho
              simp [Region.binds] at ha
              obtain rfl : f1 = true := by first | exact ha | exact ha.1 | exact ha.2.1 | exact ha.2.2.1 | exact ha.2.2.2.1 | exact ha.2.2.2.2.1 | exact ha.2.2.2.2.2.1 | exact ha.2.2.2.2.2.2.1 | exact ha.2.2.2.2.2.2.2.1 | exact ha.2.2.2.2.2.2.2.2.1 | exact ha.2.2.2.2.2.2.2.2.2.1 | exact ha.2.2.2.2.2.2.2.2.2.2.1 | exact ha.2.2.2.2.2.2.2.2.2.2.2.1 | exact ha.2.2.2.2.2.2.2.2.2.2.2.2.1 | exact ha.2 | exact ha.2.2 | exact ha.2.2.2 | exact ha.2.2.2.2 | exact ha.2.2.2.2.2 | exact ha.2.2.2.2.2.2 | exact ha.2.2.2.2.2.2.2 | exact ha.2.2.2.2.2.2.2.2 | exact ha.2.2.2.2.2.2.2.2.2 | exact ha.2.2.2.2.2.2.2.2.2.2 | exact ha.2.2.2.2.2.2.2.2.2.2.2 | exact ha.2.2.2.2.2.2.2.2.2.2.2.2 | exact ha.2.2.2.2.2.2.2.2.2.2.2.2.2
              clear ha
              refine .inl ?_
              unfold pinS0Upd Oper.wp
              go_simp
              exact ⟨f0, true, true, f3, f4, f5, f6, f7, f8, f9, f10, f11, rfl, rfl, c10, c8, hB, hs, hc, hx⟩
            · have ho' := ho
              simp at hu ho
              subst hu ho
              simp [Region.binds] at ha
              obtain rfl : f2 = true := by first | exact ha | exact ha.1 | exact ha.2.1 | exact ha.2.2.1 | exact ha.2.2.2.1 | exact ha.2.2.2.2.1 | exact ha.2.2.2.2.2.1 | exact ha.2.2.2.2.2.2.1 | exact ha.2.2.2.2.2.2.2.1 | exact ha.2.2.2.2.2.2.2.2.1 | exact ha.2.2.2.2.2.2.2.2.2.1 | exact ha.2.2.2.2.2.2.2.2.2.2.1 | exact ha.2.2.2.2.2.2.2.2.2.2.2.1 | exact ha.2.2.2.2.2.2.2.2.2.2.2.2.1 | exact ha.2 | exact ha.2.2 | exact ha.2.2.2 | exact ha.2.2.2.2 | exact ha.2.2.2.2.2 | exact ha.2.2.2.2.2.2 | exact ha.2.2.2.2.2.2.2 | exact ha.2.2.2.2.2.2.2.2 | exact ha.2.2.2.2.2.2.2.2.2 | exact ha.2.2.2.2.2.2.2.2.2.2 | exact ha.2.2.2.2.2.2.2.2.2.2.2 | exact ha.2.2.2.2.2.2.2.2.2.2.2.2 | exact ha.2.2.2.2.2.2.2.2.2.2.2.2.2
              clear ha
              refine .inl ?_
              unfold pinS0Upd Oper.wp
              go_simp
              exact ⟨f0, f1, true, true, f4, f5, f6, f7, f8, f9, f10, f11, rfl, rfl, c10, c8, hB, hs, hc, hx⟩
            · have ho' := ho
              simp at hu ho
              subst hu ho
              simp [Region.binds] at ha
              obtain rfl : f3 = true := by first | exact ha | exact ha.1 | exact ha.2.1 | exact ha.2.2.1 | exact ha.2.2.2.1 | exact ha.2.2.2.2.1 | exact ha.2.2.2.2.2.1 | exact ha.2.2.2.2.2.2.1 | exact ha.2.2.2.2.2.2.2.1 | exact ha.2.2.2.2.2.2.2.2.1 | exact ha.2.2.2.2.2.2.2.2.2.1 | exact ha.2.2.2.2.2.2.2.2.2.2.1 | exact ha.2.2.2.2.2.2.2.2.2.2.2.1 | exact ha.2.2.2.2.2.2.2.2.2.2.2.2.1 | exact ha.2 | exact ha.2.2 | exact ha.2.2.2 | exact ha.2.2.2.2 | exact ha.2.2.2.2.2 | exact ha.2.2.2.2.2.2 | exact ha.2.2.2.2.2.2.2 | exact ha.2.2.2.2.2.2.2.2 | exact ha.2.2.2.2.2.2.2.2.2 | exact ha.2.2.2.2.2.2.2.2.2.2 | exact ha.2.2.2.2.2.2.2.2.2.2.2 | exact ha.2.2.2.2.2.2.2.2.2.2.2.2 | exact ha.2.2.2.2.2.2.2.2.2.2.2.2.2
              clear ha
              unfold pinS0Upd
              refine wpOp_do ho' (by rfl) ?_
              unfold Oper.wp
              go_simp
              exact ⟨f0, f1, f2, true, true, f5, f6, f7, f8, f9, f10, f11, rfl, rfl, c10, c8, hB, hs, hc, hx⟩
            · have ho' := ho
              simp at hu ho
              subst hu ho
              simp [Region.binds] at ha
              obtain rfl : f3 = true := by first | exact ha | exact ha.1 | exact ha.2.1 | exact ha.2.2.1 | exact ha.2.2.2.1 | exact ha.2.2.2.2.1 | exact ha.2.2.2.2.2.1 | exact ha.2.2.2.2.2.2.1 | exact ha.2.2.2.2.2.2.2.1 | exact ha.2.2.2.2.2.2.2.2.1 | exact ha.2.2.2.2.2.2.2.2.2.1 | exact ha.2.2.2.2.2.2.2.2.2.2.1 | exact ha.2.2.2.2.2.2.2.2.2.2.2.1 | exact ha.2.2.2.2.2.2.2.2.2.2.2.2.1 | exact ha.2 | exact ha.2.2 | exact ha.2.2.2 | exact ha.2.2.2.2 | exact ha.2.2.2.2.2 | exact ha.2.2.2.2.2.2 | exact ha.2.2.2.2.2.2.2 | exact ha.2.2.2.2.2.2.2.2 | exact ha.2.2.2.2.2.2.2.2.2 | exact ha.2.2.2.2.2.2.2.2.2.2 | exact ha.2.2.2.2.2.2.2.2.2.2.2 | exact ha.2.2.2.2.2.2.2.2.2.2.2.2 | exact ha.2.2.2.2.2.2.2.2.2.2.2.2.2
              obtain rfl : f4 = true := by first | exact ha | exact ha.1 | exact ha.2.1 | exact ha.2.2.1 | exact ha.2.2.2.1 | exact ha.2.2.2.2.1 | exact ha.2.2.2.2.2.1 | exact ha.2.2.2.2.2.2.1 | exact ha.2.2.2.2.2.2.2.1 | exact ha.2.2.2.2.2.2.2.2.1 | exact ha.2.2.2.2.2.2.2.2.2.1 | exact ha.2.2.2.2.2.2.2.2.2.2.1 | exact ha.2.2.2.2.2.2.2.2.2.2.2.1 | exact ha.2.2.2.2.2.2.2.2.2.2.2.2.1 | exact ha.2 | exact ha.2.2 | exact ha.2.2.2 | exact ha.2.2.2.2 | exact ha.2.2.2.2.2 | exact ha.2.2.2.2.2.2 | exact ha.2.2.2.2.2.2.2 | exact ha.2.2.2.2.2.2.2.2 | exact ha.2.2.2.2.2.2.2.2.2 | exact ha.2.2.2.2.2.2.2.2.2.2 | exact ha.2.2.2.2.2.2.2.2.2.2.2 | exact ha.2.2.2.2.2.2.2.2.2.2.2.2 | exact ha.2.2.2.2.2.2.2.2.2.2.2.2.2
              clear ha
              refine .inl ?_
              unfold pinS0Upd Oper.wp
              go_simp
              exact ⟨f0, f1, f2, true, true, true, f6, f7, f8, f9, f10, f11, rfl, rfl, c10, c8, hB, hs, hc, hx⟩
            · have ho' := ho
              simp at hu ho
              subst hu ho
              simp [Region.binds] at ha
              obtain rfl : f5 = true := by first | exact ha | exact ha.1 | exact ha.2.1 | exact ha.2.2.1 | exact ha.2.2.2.1 | exact ha.2.2.2.2.1 | exact ha.2.2.2.2.2.1 | exact ha.2.2.2.2.2.2.1 | exact ha.2.2.2.2.2.2.2.1 | exact ha.2.2.2.2.2.2.2.2.1 | exact ha.2.2.2.2.2.2.2.2.2.1 | exact ha.2.2.2.2.2.2.2.2.2.2.1 | exact ha.2.2.2.2.2.2.2.2.2.2.2.1 | exact ha.2.2.2.2.2.2.2.2.2.2.2.2.1 | exact ha.2 | exact ha.2.2 | exact ha.2.2.2 | exact ha.2.2.2.2 | exact ha.2.2.2.2.2 | exact ha.2.2.2.2.2.2 | exact ha.2.2.2.2.2.2.2 | exact ha.2.2.2.2.2.2.2.2 | exact ha.2.2.2.2.2.2.2.2.2 | exact ha.2.2.2.2.2.2.2.2.2.2 | exact ha.2.2.2.2.2.2.2.2.2.2.2 | exact ha.2.2.2.2.2.2.2.2.2.2.2.2 | exact ha.2.2.2.2.2.2.2.2.2.2.2.2.2
              clear ha
              refine .inl ?_
              unfold pinS0Upd Oper.wp
              go_simp
              exact ⟨f0, f1, f2, f3, f4, true, true, f7, f8, f9, f10, f11, rfl, rfl, c10, c8, hB, hs, hc, hx⟩
            · have ho' := ho
              simp at hu ho
              subst hu ho
              simp [Region.binds] at ha
              obtain rfl : f6 = true := by first | exact ha | exact ha.1 | exact ha.2.1 | exact ha.2.2.1 | exact ha.2.2.2.1 | exact ha.2.2.2.2.1 | exact ha.2.2.2.2.2.1 | exact ha.2.2.2.2.2.2.1 | exact ha.2.2.2.2.2.2.2.1 | exact ha.2.2.2.2.2.2.2.2.1 | exact ha.2.2.2.2.2.2.2.2.2.1 | exact ha.2.2.2.2.2.2.2.2.2.2.1 | exact ha.2.2.2.2.2.2.2.2.2.2.2.1 | exact ha.2.2.2.2.2.2.2.2.2.2.2.2.1 | exact ha.2 | exact ha.2.2 | exact ha.2.2.2 | exact ha.2.2.2.2 | exact ha.2.2.2.2.2 | exact ha.2.2.2.2.2.2 | exact ha.2.2.2.2.2.2.2 | exact ha.2.2.2.2.2.2.2.2 | exact ha.2.2.2.2.2.2.2.2.2 | exact ha.2.2.2.2.2.2.2.2.2.2 | exact ha.2.2.2.2.2.2.2.2.2.2.2 | exact ha.2.2.2.2.2.2.2.2.2.2.2.2 | exact ha.2.2.2.2.2.2.2.2.2.2.2.2.2
              clear ha
              have e8 : f8 = false := Bool.eq_false_iff.2 fun h => (Bool.false_ne_true (c8.out h))
              subst e8
              have e10 : f10 = false := Bool.eq_false_iff.2 fun h => (Bool.false_ne_true (c10.out h).2)
              subst e10
              unfold pinS0Upd
              refine wpOp_skip ho' (by rfl) ?_
              simp only [Act.put, List.setIfInBounds_toArray, List.set_cons_succ, List.set_cons_zero]
              exact ⟨f0, f1, f2, f3, f4, f5, true, true, false, f9, false, f11, rfl, rfl, Lib.hid (by simp), Lib.hid (by simp), hB, hs, hc, hx⟩
            · have ho' := ho
              simp at hu ho
              subst hu ho
              simp [Region.binds] at ha
              obtain rfl : f6 = true := by first | exact ha | exact ha.1 | exact ha.2.1 | exact ha.2.2.1 | exact ha.2.2.2.1 | exact ha.2.2.2.2.1 | exact ha.2.2.2.2.2.1 | exact ha.2.2.2.2.2.2.1 | exact ha.2.2.2.2.2.2.2.1 | exact ha.2.2.2.2.2.2.2.2.1 | exact ha.2.2.2.2.2.2.2.2.2.1 | exact ha.2.2.2.2.2.2.2.2.2.2.1 | exact ha.2.2.2.2.2.2.2.2.2.2.2.1 | exact ha.2.2.2.2.2.2.2.2.2.2.2.2.1 | exact ha.2 | exact ha.2.2 | exact ha.2.2.2 | exact ha.2.2.2.2 | exact ha.2.2.2.2.2 | exact ha.2.2.2.2.2.2 | exact ha.2.2.2.2.2.2.2 | exact ha.2.2.2.2.2.2.2.2 | exact ha.2.2.2.2.2.2.2.2.2 | exact ha.2.2.2.2.2.2.2.2.2.2 | exact ha.2.2.2.2.2.2.2.2.2.2.2 | exact ha.2.2.2.2.2.2.2.2.2.2.2.2 | exact ha.2.2.2.2.2.2.2.2.2.2.2.2.2
              obtain rfl : f7 = true := by first | exact ha | exact ha.1 | exact ha.2.1 | exact ha.2.2.1 | exact ha.2.2.2.1 | exact ha.2.2.2.2.1 | exact ha.2.2.2.2.2.1 | exact ha.2.2.2.2.2.2.1 | exact ha.2.2.2.2.2.2.2.1 | exact ha.2.2.2.2.2.2.2.2.1 | exact ha.2.2.2.2.2.2.2.2.2.1 | exact ha.2.2.2.2.2.2.2.2.2.2.1 | exact ha.2.2.2.2.2.2.2.2.2.2.2.1 | exact ha.2.2.2.2.2.2.2.2.2.2.2.2.1 | exact ha.2 | exact ha.2.2 | exact ha.2.2.2 | exact ha.2.2.2.2 | exact ha.2.2.2.2.2 | exact ha.2.2.2.2.2.2 | exact ha.2.2.2.2.2.2.2 | exact ha.2.2.2.2.2.2.2.2 | exact ha.2.2.2.2.2.2.2.2.2 | exact ha.2.2.2.2.2.2.2.2.2.2 | exact ha.2.2.2.2.2.2.2.2.2.2.2 | exact ha.2.2.2.2.2.2.2.2.2.2.2.2 | exact ha.2.2.2.2.2.2.2.2.2.2.2.2.2
              clear ha
              have e10 : f10 = false := Bool.eq_false_iff.2 fun h => (Bool.false_ne_true (c10.out h).2)
              subst e10
              unfold pinS0Upd
              refine wpOp_skip ho' (by rfl) ?_
              simp only [Act.put, List.setIfInBounds_toArray, List.set_cons_succ, List.set_cons_zero]
              exact ⟨f0, f1, f2, f3, f4, f5, true, true, true, f9, false, f11, rfl, rfl, Lib.hid (by simp), Lib.hid (by simp), hB, hs, hc, hx⟩
            · have ho' := ho
              simp at hu ho
              subst hu ho
              simp [Region.binds] at ha
              obtain rfl : f6 = true := by first | exact ha | exact ha.1 | exact ha.2.1 | exact ha.2.2.1 | exact ha.2.2.2.1 | exact ha.2.2.2.2.1 | exact ha.2.2.2.2.2.1 | exact ha.2.2.2.2.2.2.1 | exact ha.2.2.2.2.2.2.2.1 | exact ha.2.2.2.2.2.2.2.2.1 | exact ha.2.2.2.2.2.2.2.2.2.1 | exact ha.2.2.2.2.2.2.2.2.2.2.1 | exact ha.2.2.2.2.2.2.2.2.2.2.2.1 | exact ha.2.2.2.2.2.2.2.2.2.2.2.2.1 | exact ha.2 | exact ha.2.2 | exact ha.2.2.2 | exact ha.2.2.2.2 | exact ha.2.2.2.2.2 | exact ha.2.2.2.2.2.2 | exact ha.2.2.2.2.2.2.2 | exact ha.2.2.2.2.2.2.2.2 | exact ha.2.2.2.2.2.2.2.2.2 | exact ha.2.2.2.2.2.2.2.2.2.2 | exact ha.2.2.2.2.2.2.2.2.2.2.2 | exact ha.2.2.2.2.2.2.2.2.2.2.2.2 | exact ha.2.2.2.2.2.2.2.2.2.2.2.2.2
              obtain rfl : f8 = true := by first | exact ha | exact ha.1 | exact ha.2.1 | exact ha.2.2.1 | exact ha.2.2.2.1 | exact ha.2.2.2.2.1 | exact ha.2.2.2.2.2.1 | exact ha.2.2.2.2.2.2.1 | exact ha.2.2.2.2.2.2.2.1 | exact ha.2.2.2.2.2.2.2.2.1 | exact ha.2.2.2.2.2.2.2.2.2.1 | exact ha.2.2.2.2.2.2.2.2.2.2.1 | exact ha.2.2.2.2.2.2.2.2.2.2.2.1 | exact ha.2.2.2.2.2.2.2.2.2.2.2.2.1 | exact ha.2 | exact ha.2.2 | exact ha.2.2.2 | exact ha.2.2.2.2 | exact ha.2.2.2.2.2 | exact ha.2.2.2.2.2.2 | exact ha.2.2.2.2.2.2.2 | exact ha.2.2.2.2.2.2.2.2 | exact ha.2.2.2.2.2.2.2.2.2 | exact ha.2.2.2.2.2.2.2.2.2.2 | exact ha.2.2.2.2.2.2.2.2.2.2.2 | exact ha.2.2.2.2.2.2.2.2.2.2.2.2 | exact ha.2.2.2.2.2.2.2.2.2.2.2.2.2
              clear ha
              refine .inl ?_
              unfold pinS0Upd Oper.wp
              go_simp
              exact ⟨f0, f1, f2, f3, f4, f5, true, f7, true, true, f10, f11, rfl, rfl, c10, c8, hB, hs, hc, hx⟩
            · have ho' := ho
              simp at hu ho
              subst hu ho
              simp [Region.binds] at ha
              obtain rfl : f0 = true := by first | exact ha | exact ha.1 | exact ha.2.1 | exact ha.2.2.1 | exact ha.2.2.2.1 | exact ha.2.2.2.2.1 | exact ha.2.2.2.2.2.1 | exact ha.2.2.2.2.2.2.1 | exact ha.2.2.2.2.2.2.2.1 | exact ha.2.2.2.2.2.2.2.2.1 | exact ha.2.2.2.2.2.2.2.2.2.1 | exact ha.2.2.2.2.2.2.2.2.2.2.1 | exact ha.2.2.2.2.2.2.2.2.2.2.2.1 | exact ha.2.2.2.2.2.2.2.2.2.2.2.2.1 | exact ha.2 | exact ha.2.2 | exact ha.2.2.2 | exact ha.2.2.2.2 | exact ha.2.2.2.2.2 | exact ha.2.2.2.2.2.2 | exact ha.2.2.2.2.2.2.2 | exact ha.2.2.2.2.2.2.2.2 | exact ha.2.2.2.2.2.2.2.2.2 | exact ha.2.2.2.2.2.2.2.2.2.2 | exact ha.2.2.2.2.2.2.2.2.2.2.2 | exact ha.2.2.2.2.2.2.2.2.2.2.2.2 | exact ha.2.2.2.2.2.2.2.2.2.2.2.2.2
              obtain rfl : f8 = true := by first | exact ha | exact ha.1 | exact ha.2.1 | exact ha.2.2.1 | exact ha.2.2.2.1 | exact ha.2.2.2.2.1 | exact ha.2.2.2.2.2.1 | exact ha.2.2.2.2.2.2.1 | exact ha.2.2.2.2.2.2.2.1 | exact ha.2.2.2.2.2.2.2.2.1 | exact ha.2.2.2.2.2.2.2.2.2.1 | exact ha.2.2.2.2.2.2.2.2.2.2.1 | exact ha.2.2.2.2.2.2.2.2.2.2.2.1 | exact ha.2.2.2.2.2.2.2.2.2.2.2.2.1 | exact ha.2 | exact ha.2.2 | exact ha.2.2.2 | exact ha.2.2.2.2 | exact ha.2.2.2.2.2 | exact ha.2.2.2.2.2.2 | exact ha.2.2.2.2.2.2.2 | exact ha.2.2.2.2.2.2.2.2 | exact ha.2.2.2.2.2.2.2.2.2 | exact ha.2.2.2.2.2.2.2.2.2.2 | exact ha.2.2.2.2.2.2.2.2.2.2.2 | exact ha.2.2.2.2.2.2.2.2.2.2.2.2 | exact ha.2.2.2.2.2.2.2.2.2.2.2.2.2
              clear ha
              have HC := Lib.hid hc
              have HBh := Lib.hid hB
              have HXh := Lib.hid hx
              clear hc hB hx x0 x1 x2 x3 x4 x5
              unfold pinS0Upd
              refine wpOp_do ho' (by rfl) ?_
              refine wp_store_own 33 (.tmp 2) (.tmp 42) rfl w.heap.size _ #[.string K.group, .string K.artifact, .string K.type, .string K.classifier, .string xc, .int .i64 0] rfl rfl HXh.out (by rfl) size_pin6 (by simp [Value.oneCell']) ?_
              intro V vx vB vs vc
              simp only [Act.put, List.setIfInBounds_toArray, List.set_cons_succ, List.set_cons_zero]
              exact ⟨true, f1, f2, f3, f4, f5, f6, f7, true, f9, true, f11, rfl, rfl, Lib.hid (by simp), c8, vB _ _ ht2 HBh.out, Nat.le_trans hs (Nat.le_of_eq vs.symm), fun o => (vc _ o hpq).trans (HC.out o), vx⟩
            · have ho' := ho
              simp at hu ho
              subst hu ho
              simp [Region.binds] at ha
              obtain rfl : f9 = true := by first | exact ha | exact ha.1 | exact ha.2.1 | exact ha.2.2.1 | exact ha.2.2.2.1 | exact ha.2.2.2.2.1 | exact ha.2.2.2.2.2.1 | exact ha.2.2.2.2.2.2.1 | exact ha.2.2.2.2.2.2.2.1 | exact ha.2.2.2.2.2.2.2.2.1 | exact ha.2.2.2.2.2.2.2.2.2.1 | exact ha.2.2.2.2.2.2.2.2.2.2.1 | exact ha.2.2.2.2.2.2.2.2.2.2.2.1 | exact ha.2.2.2.2.2.2.2.2.2.2.2.2.1 | exact ha.2 | exact ha.2.2 | exact ha.2.2.2 | exact ha.2.2.2.2 | exact ha.2.2.2.2.2 | exact ha.2.2.2.2.2.2 | exact ha.2.2.2.2.2.2.2 | exact ha.2.2.2.2.2.2.2.2 | exact ha.2.2.2.2.2.2.2.2.2 | exact ha.2.2.2.2.2.2.2.2.2.2 | exact ha.2.2.2.2.2.2.2.2.2.2.2 | exact ha.2.2.2.2.2.2.2.2.2.2.2.2 | exact ha.2.2.2.2.2.2.2.2.2.2.2.2.2
              clear ha
              refine .inl ?_
              unfold pinS0Upd Oper.wp
              go_simp
              exact ⟨f0, f1, f2, f3, f4, f5, f6, f7, f8, true, f10, true, rfl, rfl, c10, c8, hB, hs, hc, hx⟩
        · have hd0 : decide (sc ≠ 0) = true := by simpa using hsc
          have hd1 : (sc != 0) = true := by simpa using hsc
          have hd2 : (sc == 0) = false := by simpa using hsc
          have hd3 : decide (sc = 0) = false := by simpa using hsc
          clear hsc
          go_wp2_with fail
          refine wp_region_flags0 (pinS1J K xc sc pm W4.heap.size w.heap.size w W5 _ _ _ _ _ _ _ _ _ _ _ _ _ _ _ _ _ _ _ _ _ _ _ _ _ _ _ _ _ _ _ _ _ _ _ _ _ _ _ _ _) (by kernel_rfl) 12 rfl (by kernel_rfl) ⟨false, false, false, false, false, false, false, false, false, false, false, false, rfl, rfl, Lib.hid (by simp), Lib.hid (by simp), belowN HB5.out 1, Nat.le_refl _, fun _ => rfl, HX5.out.drewN 1⟩ ?fin ?step
          case fin =>
            rintro a' w' ⟨f0, f1, f2, f3, f4, f5, f6, f7, f8, f9, f10, f11, hl, rfl, c10, c8, hB, hs, hc, hx⟩
            have hl' : [true, true, true, true, true, true, true, true, true, true, true, true] = [f0, f1, f2, f3, f4, f5, f6, f7, f8, f9, f10, f11] := congrArg Array.toList hl
            simp only [List.cons.injEq, and_true] at hl'
            obtain ⟨rfl, rfl, rfl, rfl, rfl, rfl, rfl, rfl, rfl, rfl, rfl, rfl⟩ := hl'
            unfold pinS1Upd
            simp only [cond_true]
            have HXX := Lib.hid hx
            have HBB := Lib.hid hB
            clear c10 c8 hB hs hc hx
            have z0 := HXX.out.cell 0 _ rfl
            have z1 := HXX.out.cell 1 _ rfl
            have z2 := HXX.out.cell 2 _ rfl
            have z3 := HXX.out.cell 3 _ rfl
            have z4 := HXX.out.cell 4 _ rfl
            have z5 := HXX.out.cell 5 _ rfl
            go_wp2
            refine bodyPost_ret (v := .tuple #[.agg #[.string K.group, .string K.artifact, .string K.type, .string K.classifier, .string xc, .int .i64 sc], .bool pm]) (by simp [results, Tryz.results30, go_sem, z0, z1, z2, z3, z4, z5]) rfl ?_
            refine ⟨⟨K, xc, sc⟩, ?_, fun q h => (HL2.out q h).symm, HBB.out⟩
            rw [HL1.out]
            simp [hd0]
          case step =>
            rintro listed a' w' ⟨f0, f1, f2, f3, f4, f5, f6, f7, f8, f9, f10, f11, rfl, rfl, c10, c8, hB, hs, hc, hx⟩ i hi
            rw [mem_ready] at hi
            obtain ⟨hu, o, ho, ha⟩ := hi
            have hi8 : i < 12 := (Array.getElem?_eq_some_iff.1 ho).1
            rcases (by omega : i = 0 ∨ i = 1 ∨ i = 2 ∨ i = 3 ∨ i = 4 ∨ i = 5 ∨ i = 6 ∨ i = 7 ∨ i = 8 ∨ i = 9 ∨ i = 10 ∨ i = 11) with rfl | rfl | rfl | rfl | rfl | rfl | rfl | rfl | rfl | rfl | rfl | rfl
            · have ho' := ho
              simp at hu ho
              subst hu ho
              clear ha
              have e10 : f10 = false := Bool.eq_false_iff.2 fun h => (Bool.false_ne_true (c10.out h).1)
              subst e10
              have g0 := (hc 0).trans x0
              have g1 := (hc 1).trans x1
              have g2 := (hc 2).trans x2
              have g3 := (hc 3).trans x3
              have g4 := (hc 4).trans x4
              have g5 := (hc 5).trans x5
              refine .inl ?_
              unfold pinS1Upd Oper.wp
              go_simp
              exact ⟨true, f1, f2, f3, f4, f5, f6, f7, f8, f9, false, f11, rfl, rfl, Lib.hid (by simp), c8, hB, hs, hc, hx⟩
            · have ho' := ho
              simp at hu ho
              subst hu ho
              clear ha
              refine .inl ?_
              unfold pinS1Upd Oper.wp
              go_simp
              exact ⟨f0, true, f2, f3, f4, f5, f6, f7, f8, f9, f10, f11, rfl, rfl, c10, c8, hB, hs, hc, hx⟩
            · have ho' := ho
              simp at hu ho
              subst hu ho
              simp [Region.binds] at ha
              obtain rfl : f1 = true := by first | exact ha | exact ha.1 | exact ha.2.1 | exact ha.2.2.1 | exact ha.2.2.2.1 | exact ha.2.2.2.2.1 | exact ha.2.2.2.2.2.1 | exact ha.2.2.2.2.2.2.1 | exact ha.2.2.2.2.2.2.2.1 | exact ha.2.2.2.2.2.2.2.2.1 | exact ha.2.2.2.2.2.2.2.2.2.1 | exact ha.2.2.2.2.2.2.2.2.2.2.1 | exact ha.2.2.2.2.2.2.2.2.2.2.2.1 | exact ha.2.2.2.2.2.2.2.2.2.2.2.2.1 | exact ha.2 | exact ha.2.2 | exact ha.2.2.2 | exact ha.2.2.2.2 | exact ha.2.2.2.2.2 | exact ha.2.2.2.2.2.2 | exact ha.2.2.2.2.2.2.2 | exact ha.2.2.2.2.2.2.2.2 | exact ha.2.2.2.2.2.2.2.2.2 | exact ha.2.2.2.2.2.2.2.2.2.2 | exact ha.2.2.2.2.2.2.2.2.2.2.2 | exact ha.2.2.2.2.2.2.2.2.2.2.2.2 | exact ha.2.2.2.2.2.2.2.2.2.2.2.2.2
              clear ha
              refine .inl ?_
              unfold pinS1Upd Oper.wp
              go_simp
              exact ⟨f0, true, true, f3, f4, f5, f6, f7, f8, f9, f10, f11, rfl, rfl, c10, c8, hB, hs, hc, hx⟩
            · have ho' := ho
              simp at hu ho
              subst hu ho
              simp [Region.binds] at ha
              obtain rfl : f2 = true := by first | exact ha | exact ha.1 | exact ha.2.1 | exact ha.2.2.1 | exact ha.2.2.2.1 | exact ha.2.2.2.2.1 | exact ha.2.2.2.2.2.1 | exact ha.2.2.2.2.2.2.1 | exact ha.2.2.2.2.2.2.2.1 | exact ha.2.2.2.2.2.2.2.2.1 | exact ha.2.2.2.2.2.2.2.2.2.1 | exact ha.2.2.2.2.2.2.2.2.2.2.1 | exact ha.2.2.2.2.2.2.2.2.2.2.2.1 | exact ha.2.2.2.2.2.2.2.2.2.2.2.2.1 | exact ha.2 | exact ha.2.2 | exact ha.2.2.2 | exact ha.2.2.2.2 | exact ha.2.2.2.2.2 | exact ha.2.2.2.2.2.2 | exact ha.2.2.2.2.2.2.2 | exact ha.2.2.2.2.2.2.2.2 | exact ha.2.2.2.2.2.2.2.2.2 | exact ha.2.2.2.2.2.2.2.2.2.2 | exact ha.2.2.2.2.2.2.2.2.2.2.2 | exact ha.2.2.2.2.2.2.2.2.2.2.2.2 | exact ha.2.2.2.2.2.2.2.2.2.2.2.2.2
              clear ha
              refine .inl ?_
              unfold pinS1Upd Oper.wp
              go_simp
              exact ⟨f0, f1, true, true, f4, f5, f6, f7, f8, f9, f10, f11, rfl, rfl, c10, c8, hB, hs, hc, hx⟩
            · have ho' := ho
              simp at hu ho
              subst hu ho
              simp [Region.binds] at ha
              obtain rfl : f3 = true := by first | exact ha | exact ha.1 | exact ha.2.1 | exact ha.2.2.1 | exact ha.2.2.2.1 | exact ha.2.2.2.2.1 | exact ha.2.2.2.2.2.1 | exact ha.2.2.2.2.2.2.1 | exact ha.2.2.2.2.2.2.2.1 | exact ha.2.2.2.2.2.2.2.2.1 | exact ha.2.2.2.2.2.2.2.2.2.1 | exact ha.2.2.2.2.2.2.2.2.2.2.1 | exact ha.2.2.2.2.2.2.2.2.2.2.2.1 | exact ha.2.2.2.2.2.2.2.2.2.2.2.2.1 | exact ha.2 | exact ha.2.2 | exact ha.2.2.2 | exact ha.2.2.2.2 | exact ha.2.2.2.2.2 | exact ha.2.2.2.2.2.2 | exact ha.2.2.2.2.2.2.2 | exact ha.2.2.2.2.2.2.2.2 | exact ha.2.2.2.2.2.2.2.2.2 | exact ha.2.2.2.2.2.2.2.2.2.2 | exact ha.2.2.2.2.2.2.2.2.2.2.2 | exact ha.2.2.2.2.2.2.2.2.2.2.2.2 | exact ha.2.2.2.2.2.2.2.2.2.2.2.2.2
              clear ha
              unfold pinS1Upd
              refine wpOp_do ho' (by rfl) ?_
              unfold Oper.wp
              go_simp
              exact ⟨f0, f1, f2, true, true, f5, f6, f7, f8, f9, f10, f11, rfl, rfl, c10, c8, hB, hs, hc, hx⟩
            · have ho' := ho
              simp at hu ho
              subst hu ho
              simp [Region.binds] at ha
              obtain rfl : f3 = true := by first | exact ha | exact ha.1 | exact ha.2.1 | exact ha.2.2.1 | exact ha.2.2.2.1 | exact ha.2.2.2.2.1 | exact ha.2.2.2.2.2.1 | exact ha.2.2.2.2.2.2.1 | exact ha.2.2.2.2.2.2.2.1 | exact ha.2.2.2.2.2.2.2.2.1 | exact ha.2.2.2.2.2.2.2.2.2.1 | exact ha.2.2.2.2.2.2.2.2.2.2.1 | exact ha.2.2.2.2.2.2.2.2.2.2.2.1 | exact ha.2.2.2.2.2.2.2.2.2.2.2.2.1 | exact ha.2 | exact ha.2.2 | exact ha.2.2.2 | exact ha.2.2.2.2 | exact ha.2.2.2.2.2 | exact ha.2.2.2.2.2.2 | exact ha.2.2.2.2.2.2.2 | exact ha.2.2.2.2.2.2.2.2 | exact ha.2.2.2.2.2.2.2.2.2 | exact ha.2.2.2.2.2.2.2.2.2.2 | exact ha.2.2.2.2.2.2.2.2.2.2.2 | exact ha.2.2.2.2.2.2.2.2.2.2.2.2 | exact ha.2.2.2.2.2.2.2.2.2.2.2.2.2
              obtain rfl : f4 = true := by first | exact ha | exact ha.1 | exact ha.2.1 | exact ha.2.2.1 | exact ha.2.2.2.1 | exact ha.2.2.2.2.1 | exact ha.2.2.2.2.2.1 | exact ha.2.2.2.2.2.2.1 | exact ha.2.2.2.2.2.2.2.1 | exact ha.2.2.2.2.2.2.2.2.1 | exact ha.2.2.2.2.2.2.2.2.2.1 | exact ha.2.2.2.2.2.2.2.2.2.2.1 | exact ha.2.2.2.2.2.2.2.2.2.2.2.1 | exact ha.2.2.2.2.2.2.2.2.2.2.2.2.1 | exact ha.2 | exact ha.2.2 | exact ha.2.2.2 | exact ha.2.2.2.2 | exact ha.2.2.2.2.2 | exact ha.2.2.2.2.2.2 | exact ha.2.2.2.2.2.2.2 | exact ha.2.2.2.2.2.2.2.2 | exact ha.2.2.2.2.2.2.2.2.2 | exact ha.2.2.2.2.2.2.2.2.2.2 | exact ha.2.2.2.2.2.2.2.2.2.2.2 | exact ha.2.2.2.2.2.2.2.2.2.2.2.2 | exact ha.2.2.2.2.2.2.2.2.2.2.2.2.2
              clear ha
              refine .inl ?_
              unfold pinS1Upd Oper.wp
              go_simp
              exact ⟨f0, f1, f2, true, true, true, f6, f7, f8, f9, f10, f11, rfl, rfl, c10, c8, hB, hs, hc, hx⟩
            · have ho' := ho
              simp at hu ho
              subst hu ho
              simp [Region.binds] at ha
              obtain rfl : f5 = true := by first | exact ha | exact ha.1 | exact ha.2.1 | exact ha.2.2.1 | exact ha.2.2.2.1 | exact ha.2.2.2.2.1 | exact ha.2.2.2.2.2.1 | exact ha.2.2.2.2.2.2.1 | exact ha.2.2.2.2.2.2.2.1 | exact ha.2.2.2.2.2.2.2.2.1 | exact ha.2.2.2.2.2.2.2.2.2.1 | exact ha.2.2.2.2.2.2.2.2.2.2.1 | exact ha.2.2.2.2.2.2.2.2.2.2.2.1 | exact ha.2.2.2.2.2.2.2.2.2.2.2.2.1 | exact ha.2 | exact ha.2.2 | exact ha.2.2.2 | exact ha.2.2.2.2 | exact ha.2.2.2.2.2 | exact ha.2.2.2.2.2.2 | exact ha.2.2.2.2.2.2.2 | exact ha.2.2.2.2.2.2.2.2 | exact ha.2.2.2.2.2.2.2.2.2 | exact ha.2.2.2.2.2.2.2.2.2.2 | exact ha.2.2.2.2.2.2.2.2.2.2.2 | exact ha.2.2.2.2.2.2.2.2.2.2.2.2 | exact ha.2.2.2.2.2.2.2.2.2.2.2.2.2
              clear ha
              refine .inl ?_
              unfold pinS1Upd Oper.wp
              go_simp
              exact ⟨f0, f1, f2, f3, f4, true, true, f7, f8, f9, f10, f11, rfl, rfl, c10, c8, hB, hs, hc, hx⟩
            · have ho' := ho
              simp at hu ho
              subst hu ho
              simp [Region.binds] at ha
              obtain rfl : f6 = true := by first | exact ha | exact ha.1 | exact ha.2.1 | exact ha.2.2.1 | exact ha.2.2.2.1 | exact ha.2.2.2.2.1 | exact ha.2.2.2.2.2.1 | exact ha.2.2.2.2.2.2.1 | exact ha.2.2.2.2.2.2.2.1 | exact ha.2.2.2.2.2.2.2.2.1 | exact ha.2.2.2.2.2.2.2.2.2.1 | exact ha.2.2.2.2.2.2.2.2.2.2.1 | exact ha.2.2.2.2.2.2.2.2.2.2.2.1 | exact ha.2.2.2.2.2.2.2.2.2.2.2.2.1 | exact ha.2 | exact ha.2.2 | exact ha.2.2.2 | exact ha.2.2.2.2 | exact ha.2.2.2.2.2 | exact ha.2.2.2.2.2.2 | exact ha.2.2.2.2.2.2.2 | exact ha.2.2.2.2.2.2.2.2 | exact ha.2.2.2.2.2.2.2.2.2 | exact ha.2.2.2.2.2.2.2.2.2.2 | exact ha.2.2.2.2.2.2.2.2.2.2.2 | exact ha.2.2.2.2.2.2.2.2.2.2.2.2 | exact ha.2.2.2.2.2.2.2.2.2.2.2.2.2
              clear ha
              have e8 : f8 = false := Bool.eq_false_iff.2 fun h => (Bool.false_ne_true (c8.out h))
              subst e8
              have e10 : f10 = false := Bool.eq_false_iff.2 fun h => (Bool.false_ne_true (c10.out h).2)
              subst e10
              have g0 := (hc 0).trans x0
              have g1 := (hc 1).trans x1
              have g2 := (hc 2).trans x2
              have g3 := (hc 3).trans x3
              have g4 := (hc 4).trans x4
              have g5 := (hc 5).trans x5
              unfold pinS1Upd
              refine wpOp_do ho' (by rfl) ?_
              unfold Oper.wp
              go_simp
              exact ⟨f0, f1, f2, f3, f4, f5, true, true, false, f9, false, f11, rfl, rfl, Lib.hid (by simp), Lib.hid (by simp), hB, hs, hc, hx⟩
            · have ho' := ho
              simp at hu ho
              subst hu ho
              simp [Region.binds] at ha
              obtain rfl : f6 = true := by first | exact ha | exact ha.1 | exact ha.2.1 | exact ha.2.2.1 | exact ha.2.2.2.1 | exact ha.2.2.2.2.1 | exact ha.2.2.2.2.2.1 | exact ha.2.2.2.2.2.2.1 | exact ha.2.2.2.2.2.2.2.1 | exact ha.2.2.2.2.2.2.2.2.1 | exact ha.2.2.2.2.2.2.2.2.2.1 | exact ha.2.2.2.2.2.2.2.2.2.2.1 | exact ha.2.2.2.2.2.2.2.2.2.2.2.1 | exact ha.2.2.2.2.2.2.2.2.2.2.2.2.1 | exact ha.2 | exact ha.2.2 | exact ha.2.2.2 | exact ha.2.2.2.2 | exact ha.2.2.2.2.2 | exact ha.2.2.2.2.2.2 | exact ha.2.2.2.2.2.2.2 | exact ha.2.2.2.2.2.2.2.2 | exact ha.2.2.2.2.2.2.2.2.2 | exact ha.2.2.2.2.2.2.2.2.2.2 | exact ha.2.2.2.2.2.2.2.2.2.2.2 | exact ha.2.2.2.2.2.2.2.2.2.2.2.2 | exact ha.2.2.2.2.2.2.2.2.2.2.2.2.2
              obtain rfl : f7 = true := by first | exact ha | exact ha.1 | exact ha.2.1 | exact ha.2.2.1 | exact ha.2.2.2.1 | exact ha.2.2.2.2.1 | exact ha.2.2.2.2.2.1 | exact ha.2.2.2.2.2.2.1 | exact ha.2.2.2.2.2.2.2.1 | exact ha.2.2.2.2.2.2.2.2.1 | exact ha.2.2.2.2.2.2.2.2.2.1 | exact ha.2.2.2.2.2.2.2.2.2.2.1 | exact ha.2.2.2.2.2.2.2.2.2.2.2.1 | exact ha.2.2.2.2.2.2.2.2.2.2.2.2.1 | exact ha.2 | exact ha.2.2 | exact ha.2.2.2 | exact ha.2.2.2.2 | exact ha.2.2.2.2.2 | exact ha.2.2.2.2.2.2 | exact ha.2.2.2.2.2.2.2 | exact ha.2.2.2.2.2.2.2.2 | exact ha.2.2.2.2.2.2.2.2.2 | exact ha.2.2.2.2.2.2.2.2.2.2 | exact ha.2.2.2.2.2.2.2.2.2.2.2 | exact ha.2.2.2.2.2.2.2.2.2.2.2.2 | exact ha.2.2.2.2.2.2.2.2.2.2.2.2.2
              clear ha
              have e10 : f10 = false := Bool.eq_false_iff.2 fun h => (Bool.false_ne_true (c10.out h).2)
              subst e10
              unfold pinS1Upd
              refine wpOp_do ho' (by rfl) ?_
              unfold Oper.wp
              go_simp
              refine (HMP.out w').mono ?_
              rintro e w6 ⟨rfl, hb⟩
              exact ⟨f0, f1, f2, f3, f4, f5, true, true, true, f9, false, f11, rfl, rfl, Lib.hid (by simp), Lib.hid (by simp), hB.trans (hb.mono hB.size), Nat.le_trans hs hb.size, fun o => (hb.cell (by exact Nat.lt_of_lt_of_le l9 hs)).trans (hc o), hx.below hb hx.lt⟩
            · have ho' := ho
              simp at hu ho
              subst hu ho
              simp [Region.binds] at ha
              obtain rfl : f6 = true := by first | exact ha | exact ha.1 | exact ha.2.1 | exact ha.2.2.1 | exact ha.2.2.2.1 | exact ha.2.2.2.2.1 | exact ha.2.2.2.2.2.1 | exact ha.2.2.2.2.2.2.1 | exact ha.2.2.2.2.2.2.2.1 | exact ha.2.2.2.2.2.2.2.2.1 | exact ha.2.2.2.2.2.2.2.2.2.1 | exact ha.2.2.2.2.2.2.2.2.2.2.1 | exact ha.2.2.2.2.2.2.2.2.2.2.2.1 | exact ha.2.2.2.2.2.2.2.2.2.2.2.2.1 | exact ha.2 | exact ha.2.2 | exact ha.2.2.2 | exact ha.2.2.2.2 | exact ha.2.2.2.2.2 | exact ha.2.2.2.2.2.2 | exact ha.2.2.2.2.2.2.2 | exact ha.2.2.2.2.2.2.2.2 | exact ha.2.2.2.2.2.2.2.2.2 | exact ha.2.2.2.2.2.2.2.2.2.2 | exact ha.2.2.2.2.2.2.2.2.2.2.2 | exact ha.2.2.2.2.2.2.2.2.2.2.2.2 | exact ha.2.2.2.2.2.2.2.2.2.2.2.2.2
              obtain rfl : f8 = true := by first | exact ha | exact ha.1 | exact ha.2.1 | exact ha.2.2.1 | exact ha.2.2.2.1 | exact ha.2.2.2.2.1 | exact ha.2.2.2.2.2.1 | exact ha.2.2.2.2.2.2.1 | exact ha.2.2.2.2.2.2.2.1 | exact ha.2.2.2.2.2.2.2.2.1 | exact ha.2.2.2.2.2.2.2.2.2.1 | exact ha.2.2.2.2.2.2.2.2.2.2.1 | exact ha.2.2.2.2.2.2.2.2.2.2.2.1 | exact ha.2.2.2.2.2.2.2.2.2.2.2.2.1 | exact ha.2 | exact ha.2.2 | exact ha.2.2.2 | exact ha.2.2.2.2 | exact ha.2.2.2.2.2 | exact ha.2.2.2.2.2.2 | exact ha.2.2.2.2.2.2.2 | exact ha.2.2.2.2.2.2.2.2 | exact ha.2.2.2.2.2.2.2.2.2 | exact ha.2.2.2.2.2.2.2.2.2.2 | exact ha.2.2.2.2.2.2.2.2.2.2.2 | exact ha.2.2.2.2.2.2.2.2.2.2.2.2 | exact ha.2.2.2.2.2.2.2.2.2.2.2.2.2
              clear ha
              refine .inl ?_
              unfold pinS1Upd Oper.wp
              go_simp
              exact ⟨f0, f1, f2, f3, f4, f5, true, f7, true, true, f10, f11, rfl, rfl, c10, c8, hB, hs, hc, hx⟩
            · have ho' := ho
              simp at hu ho
              subst hu ho
              simp [Region.binds] at ha
              obtain rfl : f0 = true := by first | exact ha | exact ha.1 | exact ha.2.1 | exact ha.2.2.1 | exact ha.2.2.2.1 | exact ha.2.2.2.2.1 | exact ha.2.2.2.2.2.1 | exact ha.2.2.2.2.2.2.1 | exact ha.2.2.2.2.2.2.2.1 | exact ha.2.2.2.2.2.2.2.2.1 | exact ha.2.2.2.2.2.2.2.2.2.1 | exact ha.2.2.2.2.2.2.2.2.2.2.1 | exact ha.2.2.2.2.2.2.2.2.2.2.2.1 | exact ha.2.2.2.2.2.2.2.2.2.2.2.2.1 | exact ha.2 | exact ha.2.2 | exact ha.2.2.2 | exact ha.2.2.2.2 | exact ha.2.2.2.2.2 | exact ha.2.2.2.2.2.2 | exact ha.2.2.2.2.2.2.2 | exact ha.2.2.2.2.2.2.2.2 | exact ha.2.2.2.2.2.2.2.2.2 | exact ha.2.2.2.2.2.2.2.2.2.2 | exact ha.2.2.2.2.2.2.2.2.2.2.2 | exact ha.2.2.2.2.2.2.2.2.2.2.2.2 | exact ha.2.2.2.2.2.2.2.2.2.2.2.2.2
              obtain rfl : f8 = true := by first | exact ha | exact ha.1 | exact ha.2.1 | exact ha.2.2.1 | exact ha.2.2.2.1 | exact ha.2.2.2.2.1 | exact ha.2.2.2.2.2.1 | exact ha.2.2.2.2.2.2.1 | exact ha.2.2.2.2.2.2.2.1 | exact ha.2.2.2.2.2.2.2.2.1 | exact ha.2.2.2.2.2.2.2.2.2.1 | exact ha.2.2.2.2.2.2.2.2.2.2.1 | exact ha.2.2.2.2.2.2.2.2.2.2.2.1 | exact ha.2.2.2.2.2.2.2.2.2.2.2.2.1 | exact ha.2 | exact ha.2.2 | exact ha.2.2.2 | exact ha.2.2.2.2 | exact ha.2.2.2.2.2 | exact ha.2.2.2.2.2.2 | exact ha.2.2.2.2.2.2.2 | exact ha.2.2.2.2.2.2.2.2 | exact ha.2.2.2.2.2.2.2.2.2 | exact ha.2.2.2.2.2.2.2.2.2.2 | exact ha.2.2.2.2.2.2.2.2.2.2.2 | exact ha.2.2.2.2.2.2.2.2.2.2.2.2 | exact ha.2.2.2.2.2.2.2.2.2.2.2.2.2
              clear ha
              have HC := Lib.hid hc
              have HBh := Lib.hid hB
              have HXh := Lib.hid hx
              clear hc hB hx x0 x1 x2 x3 x4 x5
              unfold pinS1Upd
              refine wpOp_do ho' (by rfl) ?_
              refine wp_store_own 33 (.tmp 2) (.tmp 42) rfl w.heap.size _ #[.string K.group, .string K.artifact, .string K.type, .string K.classifier, .string xc, .int .i64 sc] rfl rfl HXh.out (by rfl) size_pin6 (by simp [Value.oneCell']) ?_
              intro V vx vB vs vc
              simp only [Act.put, List.setIfInBounds_toArray, List.set_cons_succ, List.set_cons_zero]
              exact ⟨true, f1, f2, f3, f4, f5, f6, f7, true, f9, true, f11, rfl, rfl, Lib.hid (by simp), c8, vB _ _ ht2 HBh.out, Nat.le_trans hs (Nat.le_of_eq vs.symm), fun o => (vc _ o hpq).trans (HC.out o), vx⟩
            · have ho' := ho
              simp at hu ho
              subst hu ho
              simp [Region.binds] at ha
              obtain rfl : f9 = true := by first | exact ha | exact ha.1 | exact ha.2.1 | exact ha.2.2.1 | exact ha.2.2.2.1 | exact ha.2.2.2.2.1 | exact ha.2.2.2.2.2.1 | exact ha.2.2.2.2.2.2.1 | exact ha.2.2.2.2.2.2.2.1 | exact ha.2.2.2.2.2.2.2.2.1 | exact ha.2.2.2.2.2.2.2.2.2.1 | exact ha.2.2.2.2.2.2.2.2.2.2.1 | exact ha.2.2.2.2.2.2.2.2.2.2.2.1 | exact ha.2.2.2.2.2.2.2.2.2.2.2.2.1 | exact ha.2 | exact ha.2.2 | exact ha.2.2.2 | exact ha.2.2.2.2 | exact ha.2.2.2.2.2 | exact ha.2.2.2.2.2.2 | exact ha.2.2.2.2.2.2.2 | exact ha.2.2.2.2.2.2.2.2 | exact ha.2.2.2.2.2.2.2.2.2 | exact ha.2.2.2.2.2.2.2.2.2.2 | exact ha.2.2.2.2.2.2.2.2.2.2.2 | exact ha.2.2.2.2.2.2.2.2.2.2.2.2 | exact ha.2.2.2.2.2.2.2.2.2.2.2.2.2
              clear ha
              refine .inl ?_
              unfold pinS1Upd Oper.wp
              go_simp
              exact ⟨f0, f1, f2, f3, f4, f5, f6, f7, f8, true, f10, true, rfl, rfl, c10, c8, hB, hs, hc, hx⟩

end Go.Proofs.YtopknpainclmgaaGreatDoor
