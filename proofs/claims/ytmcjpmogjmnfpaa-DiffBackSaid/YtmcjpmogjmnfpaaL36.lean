/- Walks: the law of DiffBack; its conditions stand in the theorem. -/
import Derived.Test.YtmcjpmogjmnfpaaLD
import Derived.Test.YtmcjpmogjmnfpaaL34
import Derived.Test.YtmcjpmogjmnfpaaL25
import Derived.Test.YtmcjpmogjmnfpaaG2
import Derived.Deep.RegionHeld3
namespace Go.Proofs.Ytmcjpmogjmnfpaa
open Go Go.RowKit

def dbkUpd (a b : Lock) (bo : Option Addr) (bc : Nat) (LV : Value) (x0 x1 x2 x3 x4 x5 x6 x7 x10 x11 x12 x13 x14 x15 x16 x17 x18 x19 x20 x21 x22 x23 x24 x25 x26 x27 x28 x29 x30 x31 x32 x33 x34 x35 x36 x37 x38 x39 x40 x41 x42 x50 x51 x52 x53 x54 x55 x56 x57 x58 x59 x60 x61 x62 x63 x64 x65 x66 x67 x68 x69 x70 x71 x72 x73 x74 x75 x76 x77 x78 x79 x80 x81 x82 x83 x84 x85 x86 x87 x88 x89 x90 x91 x92 x93 x94 x95 x96 x97 : Value) (f0 f1 f2 f3 f4 f5 f6 f7 _f8 f9 : Bool) (tv : Value) (xo : Option Addr) (xc p : Nat) : Act :=
  ⟨#[x0, x1, x2, x3, x4, x5, x6, x7, cond f7 (.pointer (some ⟨p, 0, none⟩)) undef, cond f9 (.int .i64 0) undef, x10, x11, x12, x13, x14, x15, x16, x17, x18, x19, x20, x21, x22, x23, x24, x25, x26, x27, x28, x29, x30, x31, x32, x33, x34, x35, x36, x37, x38, x39, x40, x41, x42, cond f4 (.tuple #[.agg #[.string a.root.group, .string a.root.artifact, .string a.root.version, .slice xo a.pins.length xc], .int .i64 0]) undef, cond f0 (.agg #[.string a.root.group, .string a.root.artifact, .string a.root.version, .slice bo b.pins.length bc]) undef, cond f1 (LV) undef, cond f2 (tv) undef, cond f3 (.tuple #[.agg #[.string a.root.group, .string a.root.artifact, .string a.root.version, .slice xo a.pins.length xc], .int .i64 0]) undef, cond f5 (.agg #[.string a.root.group, .string a.root.artifact, .string a.root.version, .slice xo a.pins.length xc]) undef, cond f6 (.int .i64 0) undef, x50, x51, x52, x53, x54, x55, x56, x57, x58, x59, x60, x61, x62, x63, x64, x65, x66, x67, x68, x69, x70, x71, x72, x73, x74, x75, x76, x77, x78, x79, x80, x81, x82, x83, x84, x85, x86, x87, x88, x89, x90, x91, x92, x93, x94, x95, x96, x97], []⟩
def dbkJ (a b : Lock) (bo : Option Addr) (bc : Nat) (LV : Value) (te : List Edit) (V : World) (x0 x1 x2 x3 x4 x5 x6 x7 x10 x11 x12 x13 x14 x15 x16 x17 x18 x19 x20 x21 x22 x23 x24 x25 x26 x27 x28 x29 x30 x31 x32 x33 x34 x35 x36 x37 x38 x39 x40 x41 x42 x50 x51 x52 x53 x54 x55 x56 x57 x58 x59 x60 x61 x62 x63 x64 x65 x66 x67 x68 x69 x70 x71 x72 x73 x74 x75 x76 x77 x78 x79 x80 x81 x82 x83 x84 x85 x86 x87 x88 x89 x90 x91 x92 x93 x94 x95 x96 x97 : Value) (listed : Array Bool) (atx : Act) (w' : World) : Prop :=
  ∃ (f0 f1 f2 f3 f4 f5 f6 f7 f8 f9 : Bool) (tv : Value) (xo : Option Addr) (xc p : Nat), listed = #[f0, f1, f2, f3, f4, f5, f6, f7, f8, f9] ∧ atx = dbkUpd a b bo bc LV x0 x1 x2 x3 x4 x5 x6 x7 x10 x11 x12 x13 x14 x15 x16 x17 x18 x19 x20 x21 x22 x23 x24 x25 x26 x27 x28 x29 x30 x31 x32 x33 x34 x35 x36 x37 x38 x39 x40 x41 x42 x50 x51 x52 x53 x54 x55 x56 x57 x58 x59 x60 x61 x62 x63 x64 x65 x66 x67 x68 x69 x70 x71 x72 x73 x74 x75 x76 x77 x78 x79 x80 x81 x82 x83 x84 x85 x86 x87 x88 x89 x90 x91 x92 x93 x94 x95 x96 x97 f0 f1 f2 f3 f4 f5 f6 f7 f8 f9 tv xo xc p ∧ Hid (f3 = true → f2 = true) ∧ Hid (f4 = true → f3 = true) ∧ Hid (f5 = true → f4 = true) ∧ Hid (f6 = true → f4 = true) ∧ Hid (f8 = true → f3 = true) ∧ Hid (f7 = false → f8 = false) ∧ Below V.heap.size V w' ∧ (f2 = true → f3 = false → SliceOf 18 editC w' tv te) ∧ (f3 = true → SliceOf 6 pinC w' (.slice xo a.pins.length xc) a.pins) ∧
    (f7 = true → V.heap.size ≤ p ∧ Box w' p (cond f8 [.string a.root.group, .string a.root.artifact, .string a.root.version, .slice xo a.pins.length xc] [.string ⟨#[]⟩, .string ⟨#[]⟩, .string ⟨#[]⟩, .slice none 0 0])) ∧ (f3 = true → f7 = true → ∀ w'', w'.grownBy w'' (some p) → SliceOf 6 pinC w'' (.slice xo a.pins.length xc) a.pins)
theorem grown_trans {a b c : World} {row : Option Nat} (h1 : a.grownBy b row) (h2 : b.grownBy c row) : a.grownBy c row :=
  ⟨h2.os.trans h1.os, h2.tape.trans h1.tape, h2.output.trans h1.output, Nat.le_trans h1.size h2.size, fun k hk hne => (h2.block k (Nat.lt_of_lt_of_le hk h1.size) hne).trans (h1.block k hk hne)⟩
theorem grown4 (w : World) (p : Nat) (v0 v1 v2 v3 : Value) : w.grownBy ((((w.setCell ⟨p, 0, none⟩ v0).setCell ⟨p, 1, none⟩ v1).setCell ⟨p, 2, none⟩ v2).setCell ⟨p, 3, none⟩ v3) (some p) :=
  grown_trans (grown_trans (grown_trans (setCell_grown _ _ _ _) (setCell_grown _ _ _ _)) (setCell_grown _ _ _ _)) (setCell_grown _ _ _ _)
theorem below_new {w w'' : World} {o : Obj} (hg : (w.alloc o).grownBy w'' (some w.heap.size)) : Below w.heap.size w w'' := by
  have h0 : Below w.heap.size w (w.alloc o) := (Below.refl _ _).alloc (Nat.le_refl _) _
  exact h0.trans ⟨hg.os, hg.tape, hg.output, hg.size, fun k hk => hg.block k (Nat.lt_of_lt_of_le hk h0.size) (by simp; omega)⟩

set_option maxRecDepth 100000 in
set_option maxHeartbeats 16000000 in
theorem diffBack_any (a b : Lock) (av bv : Value) (w : World) (hav : SliceOf 6 pinC w av a.pins) (hbv : SliceOf 6 pinC w bv b.pins) (hsa : lockSm a) (hsb : lockSm b) :
    Calls Try.prog 5 #[.agg (lockC a av).toArray, .agg (lockC b bv).toArray] w fun e w' => e = .returned (.bool true) ∧ Below w.heap.size w w' := by
  obtain ⟨ao, ac, rfl⟩ := hav.shape
  obtain ⟨bo, bc, rfl⟩ := hbv.shape
  have HA := Lib.hid hav
  have HB := Lib.hid hbv
  have HSA := Lib.hid hsa
  have HSB := Lib.hid hsb
  clear hav hbv hsa hsb
  unfold lockC
  go_enter Try.func5, Try.ntmps5
  go_upto_region 1 with fail
  refine wp_world ?_
  intro W hW
  have x2 : Box W w.heap.size [.string a.root.group, .string a.root.artifact, .string a.root.version, .slice ao a.pins.length ac] := by rw [hW]; exact (Box.new w _ _ _ rfl).alloc _
  have x3 : Box W (w.heap.size + 1) [.string b.root.group, .string b.root.artifact, .string b.root.version, .slice bo b.pins.length bc] := by rw [hW]; exact Box.new _ _ _ _ (by simp)
  have hB : Below w.heap.size w W := by rw [hW]; exact ((Below.refl _ w).alloc (Nat.le_refl _) _).alloc (by simp) _
  clear hW
  have HX2 := Lib.hid x2
  have HX3 := Lib.hid x3
  have HB0 := Lib.hid hB
  have s0 := hB.size
  have y0 := HX2.out.cell 0 _ rfl
  have y1 := HX2.out.cell 1 _ rfl
  have y2 := HX2.out.cell 2 _ rfl
  have y3 := HX2.out.cell 3 _ rfl
  clear x2 x3 hB
  go_wp2_with fail
  refine (light_any a (.slice ao a.pins.length ac) W (HA.out.below HB0.out)).mono ?_
  rintro e w1 ⟨b1, rfl, hb1t, hb1⟩
  have HY2 := Lib.hid (HX2.out.below hb1 HX2.out.lt)
  have HY3 := Lib.hid (HX3.out.below hb1 HX3.out.lt)
  have HB1 := Lib.hid (HB0.out.trans (hb1.mono s0))
  have s1 := HB1.out.size
  have HT1 := Lib.hid hb1t
  clear hb1 hb1t y0 y1 y2 y3 HX2 HX3
  have q0 := HY3.out.cell 0 _ rfl
  have q1 := HY3.out.cell 1 _ rfl
  have q2 := HY3.out.cell 2 _ rfl
  have q3 := HY3.out.cell 3 _ rfl
  cases b1 with
  | false =>
    go_wp2_with fail
    refine (lives_any _).mono ?_
    rintro e w9 ⟨rfl, hb9⟩
    have HB9 := Lib.hid (HB1.out.trans (hb9.mono s1))
    clear hb9
    go_wp2
    go_ret
    exact ⟨rfl, HB9.out⟩
  | true =>
  have HN1 := Lib.hid (HT1.out (by trivial))
  go_wp2_with fail
  refine (light_any b (.slice bo b.pins.length bc) w1 (HB.out.below HB1.out)).mono ?_
  rintro e w2 ⟨b2, rfl, hb2t, hb2⟩
  have HX2 := Lib.hid (HY2.out.below hb2 HY2.out.lt)
  have HX3 := Lib.hid (HY3.out.below hb2 HY3.out.lt)
  have HB2 := Lib.hid (HB1.out.trans (hb2.mono s1))
  have s2 := HB2.out.size
  have HT2 := Lib.hid hb2t
  clear hb2 hb2t q0 q1 q2 q3 HY2 HY3
  have y0 := HX2.out.cell 0 _ rfl
  have y1 := HX2.out.cell 1 _ rfl
  have y2 := HX2.out.cell 2 _ rfl
  have y3 := HX2.out.cell 3 _ rfl
  cases b2 with
  | false =>
    go_wp2_with fail
    refine (lives_any _).mono ?_
    rintro e w9 ⟨rfl, hb9⟩
    have HB9 := Lib.hid (HB2.out.trans (hb9.mono s2))
    clear hb9
    go_wp2
    go_ret
    exact ⟨rfl, HB9.out⟩
  | true =>
  have HN2 := Lib.hid (HT2.out (by trivial))
  have HLE : Hid (a.pins.length + b.pins.length ≤ 80) := by have h1 := HN1.out; have h2 := HN2.out; show _ ≤ _; omega
  obtain ⟨m1, hm1⟩ : ∃ m, m = lockMay a := ⟨_, rfl⟩
  have HM1 := Lib.hid hm1.symm
  have HC3 : Calls Try.prog 17 #[.agg #[.string a.root.group, .string a.root.artifact, .string a.root.version, .slice ao a.pins.length ac]] w2 fun e w' => e = .returned (.bool m1) ∧ Below w2.heap.size w2 w' := by rw [hm1]; exact refLockMay_any a (.slice ao a.pins.length ac) w2 (HA.out.below HB2.out) HSA.out
  have HC3' := Lib.hid HC3
  clear HC3 hm1
  go_wp2_with fail
  refine HC3'.out.mono ?_
  rintro e w3 ⟨rfl, hb3⟩
  have HY2 := Lib.hid (HX2.out.below hb3 HX2.out.lt)
  have HY3 := Lib.hid (HX3.out.below hb3 HX3.out.lt)
  have HB3 := Lib.hid (HB2.out.trans (hb3.mono s2))
  have s3 := HB3.out.size
  clear hb3 y0 y1 y2 y3 HX2 HX3 HC3'
  have q0 := HY3.out.cell 0 _ rfl
  have q1 := HY3.out.cell 1 _ rfl
  have q2 := HY3.out.cell 2 _ rfl
  have q3 := HY3.out.cell 3 _ rfl
  cases m1 with
  | false =>
    go_wp2_with fail
    refine (lives_any _).mono ?_
    rintro e w9 ⟨rfl, hb9⟩
    have HB9 := Lib.hid (HB3.out.trans (hb9.mono s3))
    clear hb9
    go_wp2
    go_ret
    exact ⟨rfl, HB9.out⟩
  | true =>
  obtain ⟨m2, hm2⟩ : ∃ m, m = lockMay b := ⟨_, rfl⟩
  have HM2 := Lib.hid hm2.symm
  have HC4 : Calls Try.prog 17 #[.agg #[.string b.root.group, .string b.root.artifact, .string b.root.version, .slice bo b.pins.length bc]] w3 fun e w' => e = .returned (.bool m2) ∧ Below w3.heap.size w3 w' := by rw [hm2]; exact refLockMay_any b (.slice bo b.pins.length bc) w3 (HB.out.below HB3.out) HSB.out
  have HC4' := Lib.hid HC4
  clear HC4 hm2
  go_wp2_with fail
  refine HC4'.out.mono ?_
  rintro e w4 ⟨rfl, hb4⟩
  have HX2 := Lib.hid (HY2.out.below hb4 HY2.out.lt)
  have HX3 := Lib.hid (HY3.out.below hb4 HY3.out.lt)
  have HB4 := Lib.hid (HB3.out.trans (hb4.mono s3))
  have s4 := HB4.out.size
  clear hb4 q0 q1 q2 q3 HY2 HY3 HC4'
  cases m2 with
  | false =>
    go_wp2_with fail
    refine (lives_any _).mono ?_
    rintro e w9 ⟨rfl, hb9⟩
    have HB9 := Lib.hid (HB4.out.trans (hb9.mono s4))
    clear hb9
    go_wp2
    go_ret
    exact ⟨rfl, HB9.out⟩
  | true =>
  have y0 := HX2.out.cell 0 _ rfl
  have y1 := HX2.out.cell 1 _ rfl
  have y2 := HX2.out.cell 2 _ rfl
  have y3 := HX2.out.cell 3 _ rfl
  have q0 := HX3.out.cell 0 _ rfl
  have q1 := HX3.out.cell 1 _ rfl
  have q2 := HX3.out.cell 2 _ rfl
  have q3 := HX3.out.cell 3 _ rfl
  have u0 := HX3.out.free 0
  have u1 := HX3.out.free 1
  have u2 := HX3.out.free 2
  have yl := HX2.out.lt
  have ql := HX3.out.lt
  go_upto_region 4 with fail
  refine wp_world ?_
  intro W5 hW5
  have x3 : Box W5 (w.heap.size + 1) [.string a.root.group, .string a.root.artifact, .string a.root.version, .slice bo b.pins.length bc] := by rw [hW5]; exact ((HX3.out.set 0 _).set 1 _).set 2 _
  have x2 : Box W5 w.heap.size [.string a.root.group, .string a.root.artifact, .string a.root.version, .slice ao a.pins.length ac] := by rw [hW5]; exact ((HX2.out.grown (setCell_grown _ _ _ _) (by simp)).grown (setCell_grown _ _ _ _) (by simp)).grown (setCell_grown _ _ _ _) (by simp)
  have hb5 : Below w.heap.size w W5 := by rw [hW5]; exact ((HB4.out.setCell (by simp) _).setCell (by simp) _).setCell (by simp) _
  clear hW5
  have HY2 := Lib.hid x2
  have HY3 := Lib.hid x3
  have HB5 := Lib.hid hb5
  have s5 := hb5.size
  clear x2 x3 hb5 y0 y1 y2 y3 q0 q1 q2 q3 u0 u1 u2 yl ql HX2 HX3
  have HLW := Lib.hid (back_laws HM1.out HM2.out)
  have HSC := Lib.hid (rooted_sm (a := a) (b := b) HSA.out HSB.out)
  have HLN : Hid ((editsR a (rooted a b)).length ≤ 80) := by have h1 := editsR_len a (rooted a b); have h2 : (rooted a b).pins.length = b.pins.length := rfl; have h3 := HLE.out; show _ ≤ _; omega
  have HLS := Lib.hid (editsR_sm HSA.out HSC.out)
  have HED : Hid (∀ V, Below w.heap.size w V → Calls Try.prog 9 #[.agg #[.string a.root.group, .string a.root.artifact, .string a.root.version, .slice ao a.pins.length ac], .agg #[.string a.root.group, .string a.root.artifact, .string a.root.version, .slice bo b.pins.length bc]] V (EditsOut V (editsR a (rooted a b)))) := fun V h => edits_any a (rooted a b) (.slice ao a.pins.length ac) (.slice bo b.pins.length bc) V (HA.out.below h) (HB.out.below h) HSA.out HSC.out (by have h3 := HLE.out; show a.pins.length + b.pins.length ≤ 1000; omega)
  have HED2 : Hid (∀ V, Below w.heap.size w V → Calls Try.prog 9 #[.agg #[.string a.root.group, .string a.root.artifact, .string a.root.version, .slice bo b.pins.length bc], .agg #[.string a.root.group, .string a.root.artifact, .string a.root.version, .slice ao a.pins.length ac]] V (EditsOut V (turnE (editsR a (rooted a b))))) := fun V h => by rw [← HLW.out.2.2.2.2]; exact edits_any (rooted a b) a (.slice bo b.pins.length bc) (.slice ao a.pins.length ac) V (HB.out.below h) (HA.out.below h) HSC.out HSA.out (by have h3 := HLE.out; show b.pins.length + a.pins.length ≤ 1000; omega)
  have HED3 : Hid (∀ V, Below w.heap.size w V → Calls Try.prog 9 #[.agg #[.string a.root.group, .string a.root.artifact, .string a.root.version, .slice ao a.pins.length ac], .agg #[.string a.root.group, .string a.root.artifact, .string a.root.version, .slice ao a.pins.length ac]] V fun e w' => ∃ vo vc, e = .returned (.slice vo 0 vc) ∧ Below V.heap.size V w') := fun V h => by
    have h1 := edits_any a a (.slice ao a.pins.length ac) (.slice ao a.pins.length ac) V (HA.out.below h) (HA.out.below h) HSA.out HSA.out (by have h3 := HN1.out; omega)
    rw [HLW.out.2.2.2.1] at h1
    refine h1.mono ?_
    rintro e w' ⟨v, rfl, ho, hb⟩
    obtain ⟨vo, vc, rfl⟩ := ho.shape
    exact ⟨vo, vc, rfl, hb⟩
  have HP1 : Hid (∀ V v, Below w.heap.size w V → SliceOf 18 editC V v (editsR a (rooted a b)) → Calls Try.prog 14 #[.agg #[.string a.root.group, .string a.root.artifact, .string a.root.version, .slice ao a.pins.length ac], v] V fun e w' => ∃ vo vc, e = .returned (.tuple #[.agg #[.string a.root.group, .string a.root.artifact, .string a.root.version, .slice vo b.pins.length vc], .int .i64 0]) ∧ SliceOf 6 pinC w' (.slice vo b.pins.length vc) b.pins ∧ Below V.heap.size V w') := fun V v h hv => by
    have h1 := apply_any a (editsR a (rooted a b)) (.slice ao a.pins.length ac) v V (HA.out.below h) hv HSA.out HLS.out (by have h3 := HLN.out; have h4 := HN1.out; omega)
    rw [HLW.out.1] at h1
    exact h1.mono fun _ _ h => h.x
  have HP2 : Hid (∀ V v, Below w.heap.size w V → SliceOf 18 editC V v (turnE (editsR a (rooted a b))) → Calls Try.prog 14 #[.agg #[.string a.root.group, .string a.root.artifact, .string a.root.version, .slice bo b.pins.length bc], v] V fun e w' => ∃ vo vc, e = .returned (.tuple #[.agg #[.string a.root.group, .string a.root.artifact, .string a.root.version, .slice vo a.pins.length vc], .int .i64 0]) ∧ SliceOf 6 pinC w' (.slice vo a.pins.length vc) a.pins ∧ (∀ b o s, vo = some ⟨b, o, s⟩ → V.heap.size ≤ b) ∧ Below V.heap.size V w') := fun V v h hv => by
    have h1 := apply_new (rooted a b) (turnE (editsR a (rooted a b))) (.slice bo b.pins.length bc) v V (HB.out.below h) hv HSC.out (turnE_sm HLS.out) (by have h3 := HLN.out; have h4 := HN2.out; rw [turnE_len]; show b.pins.length + _ ≤ 500; omega)
    rw [HLW.out.2.1] at h1
    exact h1
  have HP3 : Hid (∀ V, Below w.heap.size w V → Calls Try.prog 14 #[.agg #[.string a.root.group, .string a.root.artifact, .string a.root.version, .slice ao a.pins.length ac], .slice none 0 0] V fun e w' => ∃ vo vc, e = .returned (.tuple #[.agg #[.string a.root.group, .string a.root.artifact, .string a.root.version, .slice vo a.pins.length vc], .int .i64 0]) ∧ SliceOf 6 pinC w' (.slice vo a.pins.length vc) a.pins ∧ Below V.heap.size V w') := fun V h => by
    have h1 := apply_any a [] (.slice ao a.pins.length ac) (.slice none 0 0) V (HA.out.below h) SliceOf.nil HSA.out (fun e he => by simp at he) (by have h4 := HN1.out; simp; omega)
    rw [HLW.out.2.2.1] at h1
    exact h1.mono fun _ _ h => h.x
  have HTU : Hid (∀ V v, SliceOf 18 editC V v (editsR a (rooted a b)) → Calls Try.prog 18 #[v] V fun e w' => ∃ v', e = .returned v' ∧ SliceOf 18 editC w' v' (turnE (editsR a (rooted a b))) ∧ Below V.heap.size V w') := fun V v hv => (turn_any _ v V hv (by have h3 := HLN.out; omega)).mono fun _ _ ⟨v', h1, h2, h3⟩ => ⟨v', h1, h2.slice editC_len, h3⟩
  clear HM1 HM2 HLW HLS HT1 HT2 HN1 HN2 HLN HLE
  generalize editsR a (rooted a b) = el at *
  have y0 := HY2.out.cell 0 _ rfl
  have y1 := HY2.out.cell 1 _ rfl
  have y2 := HY2.out.cell 2 _ rfl
  have y3 := HY2.out.cell 3 _ rfl
  have q0 := HY3.out.cell 0 _ rfl
  have q1 := HY3.out.cell 1 _ rfl
  have q2 := HY3.out.cell 2 _ rfl
  have q3 := HY3.out.cell 3 _ rfl
  go_wp2_with fail
  refine (HED.out W5 HB5.out).mono ?_
  rintro e w6 ⟨lv, rfl, ho6, hb6⟩
  obtain ⟨lo, lc, rfl⟩ := ho6.shape
  have HE6 := Lib.hid (ho6.slice editC_len)
  have HX2 := Lib.hid (HY2.out.below hb6 HY2.out.lt)
  have HX3 := Lib.hid (HY3.out.below hb6 HY3.out.lt)
  have HB6 := Lib.hid (HB5.out.trans (hb6.mono s5))
  have s6 := HB6.out.size
  clear ho6 hb6 y0 y1 y2 y3 q0 q1 q2 q3 HY2 HY3 HED
  have y0 := HX2.out.cell 0 _ rfl
  have y1 := HX2.out.cell 1 _ rfl
  have y2 := HX2.out.cell 2 _ rfl
  have y3 := HX2.out.cell 3 _ rfl
  go_wp2_with fail
  refine (HP1.out w6 _ HB6.out HE6.out).mono ?_
  rintro e w7 ⟨vo, vc, rfl, hs7, hb7⟩
  have HY2 := Lib.hid (HX2.out.below hb7 HX2.out.lt)
  have HY3 := Lib.hid (HX3.out.below hb7 HX3.out.lt)
  have HE7 := Lib.hid (HE6.out.below hb7)
  have HB7 := Lib.hid (HB6.out.trans (hb7.mono s6))
  have HS7 := Lib.hid hs7
  have s7 := HB7.out.size
  clear hb7 hs7 y0 y1 y2 y3 HX2 HX3 HP1 HE6
  go_upto_region 6 with fail
  refine wp_world ?_
  intro W8 hW8
  have x6 : Box W8 w7.heap.size [.string a.root.group, .string a.root.artifact, .string a.root.version, .slice vo b.pins.length vc] := by rw [hW8]; exact Box.new w7 [.string a.root.group, .string a.root.artifact, .string a.root.version, .slice vo b.pins.length vc] _ _ rfl
  have hb8 : Below w7.heap.size w7 W8 := by rw [hW8]; exact (Below.refl _ w7).alloc (Nat.le_refl _) _
  clear hW8
  have HX6 := Lib.hid x6
  have HX2 := Lib.hid (HY2.out.below hb8 HY2.out.lt)
  have HX3 := Lib.hid (HY3.out.below hb8 HY3.out.lt)
  have HE8 := Lib.hid (HE7.out.below hb8)
  have HS8 := Lib.hid (HS7.out.below hb8)
  have HB8 := Lib.hid (HB7.out.trans (hb8.mono s7))
  have s8 := HB8.out.size
  clear x6 hb8 HY2 HY3 HE7 HS7
  have q0 := HX3.out.cell 0 _ rfl
  have q1 := HX3.out.cell 1 _ rfl
  have q2 := HX3.out.cell 2 _ rfl
  have q3 := HX3.out.cell 3 _ rfl
  have l3 := HX3.out.lt
  have HTN : Hid (∀ X, Below W8.heap.size W8 X → Calls Try.prog 18 #[.slice lo el.length lc] X fun e w' => ∃ v', e = .returned v' ∧ SliceOf 18 editC w' v' (turnE el) ∧ Below X.heap.size X w') := fun X h => HTU.out X _ (HE8.out.below h)
  have HP2' : Hid (∀ X v, Below W8.heap.size W8 X → SliceOf 18 editC X v (turnE el) → Calls Try.prog 14 #[.agg #[.string a.root.group, .string a.root.artifact, .string a.root.version, .slice bo b.pins.length bc], v] X fun e w' => ∃ vo vc, e = .returned (.tuple #[.agg #[.string a.root.group, .string a.root.artifact, .string a.root.version, .slice vo a.pins.length vc], .int .i64 0]) ∧ SliceOf 6 pinC w' (.slice vo a.pins.length vc) a.pins ∧ (∀ b o s, vo = some ⟨b, o, s⟩ → X.heap.size ≤ b) ∧ Below X.heap.size X w') := fun X v h hv => HP2.out X v (HB8.out.trans (h.mono s8)) hv
  clear HP2
  have HP2 := HP2'
  clear HP2'
  refine wp_region_flags0 (dbkJ a b bo bc (.slice lo el.length lc) (turnE el) W8 _ _ _ _ _ _ _ _ _ _ _ _ _ _ _ _ _ _ _ _ _ _ _ _ _ _ _ _ _ _ _ _ _ _ _ _ _ _ _ _ _ _ _ _ _ _ _ _ _ _ _ _ _ _ _ _ _ _ _ _ _ _ _ _ _ _ _ _ _ _ _ _ _ _ _ _ _ _ _ _ _ _ _ _ _ _ _ _ _) (by kernel_rfl) 10 rfl (by kernel_rfl) ⟨false, false, false, false, false, false, false, false, false, false, .slice none 0 0, none, 0, 0, rfl, rfl, Lib.hid (by simp), Lib.hid (by simp), Lib.hid (by simp), Lib.hid (by simp), Lib.hid (by simp), Lib.hid (by simp), belowN (Below.refl _ _) 1, by simp, by simp, by simp, by simp⟩ ?fin ?step
  case fin =>
    rintro a' w' ⟨f0, f1, f2, f3, f4, f5, f6, f7, f8, f9, tv, xo, xc, p, hl, rfl, c3, c4, c5, c6, c8, c78, hB, h2, h3, h7, hk⟩
    have hl' : (f0 = true ∧ f1 = true ∧ f2 = true ∧ f3 = true ∧ f4 = true ∧ f5 = true ∧ f6 = true ∧ f7 = true ∧ f8 = true ∧ f9 = true) := by simpa [Array.replicate, List.replicate, eq_comm] using hl
    obtain ⟨rfl, rfl, rfl, rfl, rfl, rfl, rfl, rfl, rfl, rfl⟩ := hl'
    unfold dbkUpd
    simp only [cond_true]
    obtain ⟨hp1, hp2⟩ := h7 rfl
    have HX8 : Hid (Box w' p [.string a.root.group, .string a.root.artifact, .string a.root.version, .slice xo a.pins.length xc]) := hp2
    have HS9 := Lib.hid (h3 rfl)
    have HBV := Lib.hid hB
    have HB9 := Lib.hid (HB8.out.trans (hB.mono s8))
    have s9 := HB9.out.size
    clear c3 c4 c5 c6 c8 c78 hB h2 h3 h7 hk hp2
    have HY2 := Lib.hid (HX2.out.below HBV.out HX2.out.lt)
    have HY3 := Lib.hid (HX3.out.below HBV.out HX3.out.lt)
    have HY6 := Lib.hid (HX6.out.below HBV.out HX6.out.lt)
    have HS89 := Lib.hid (HS8.out.below HBV.out)
    have HE9 := Lib.hid (HE8.out.below HBV.out)
    clear HX2 HX3 HX6 HS8 HE8 HTN HP2 HBV
    have y0 := HY2.out.cell 0 _ rfl
    have y1 := HY2.out.cell 1 _ rfl
    have y2 := HY2.out.cell 2 _ rfl
    have y3 := HY2.out.cell 3 _ rfl
    go_wp2_with fail
    refine (HP3.out w' HB9.out).mono ?_
    rintro e w10 ⟨zo, zc, rfl, hs10, hb10⟩
    have HX2 := Lib.hid (HY2.out.below hb10 HY2.out.lt)
    have HX3 := Lib.hid (HY3.out.below hb10 HY3.out.lt)
    have HX6 := Lib.hid (HY6.out.below hb10 HY6.out.lt)
    have HX8' := Lib.hid (HX8.out.below hb10 HX8.out.lt)
    have HT1 := Lib.hid (HS89.out.below hb10)
    have HT2 := Lib.hid (HS9.out.below hb10)
    have HT3 := Lib.hid hs10
    have HE10 := Lib.hid (HE9.out.below hb10)
    have HB10 := Lib.hid (HB9.out.trans (hb10.mono s9))
    have s10 := HB10.out.size
    clear y0 y1 y2 y3 hb10 hs10 HY2 HY3 HY6 HX8 HS89 HS9 HE9 HP3
    go_upto_region 8 with fail
    refine wp_world ?_
    intro W11 hW11
    have x10 : Box W11 w10.heap.size [.string a.root.group, .string a.root.artifact, .string a.root.version, .slice zo a.pins.length zc] := by rw [hW11]; exact Box.new w10 [.string a.root.group, .string a.root.artifact, .string a.root.version, .slice zo a.pins.length zc] _ _ rfl
    have hb11 : Below w10.heap.size w10 W11 := by rw [hW11]; exact (Below.refl _ w10).alloc (Nat.le_refl _) _
    clear hW11
    have HY2 := Lib.hid (HX2.out.below hb11 HX2.out.lt)
    have HY3 := Lib.hid (HX3.out.below hb11 HX3.out.lt)
    have HY6 := Lib.hid (HX6.out.below hb11 HX6.out.lt)
    have HY8 := Lib.hid (HX8'.out.below hb11 HX8'.out.lt)
    have HY10 := Lib.hid x10
    have HB11 := Lib.hid (HB10.out.trans (hb11.mono s10))
    have HU1 := Lib.hid (HT1.out.below hb11)
    have HU2 := Lib.hid (HT2.out.below hb11)
    have HU3 := Lib.hid (HT3.out.below hb11)
    have HE11 := Lib.hid (HE10.out.below hb11)
    clear x10 hb11 HX2 HX3 HX6 HX8' HT1 HT2 HT3 HE10
    have HC1 : Hid (∀ X, Below W11.heap.size W11 X → Calls Try.prog 16 #[.agg #[.string a.root.group, .string a.root.artifact, .string a.root.version, .slice vo b.pins.length vc], .agg #[.string a.root.group, .string a.root.artifact, .string a.root.version, .slice bo b.pins.length bc]] X fun e w' => e = .returned (.bool true) ∧ Below X.heap.size X w') := fun X h => by
      have h1 := sameLock_any (rooted a b) (rooted a b) (.slice vo b.pins.length vc) (.slice bo b.pins.length bc) X (HU1.out.below h) (HB.out.below (HB11.out.trans (h.mono HB11.out.size)))
      rw [decide_eq_true (rfl : rooted a b = rooted a b)] at h1
      exact h1
    have HC2 : Hid (∀ X, Below W11.heap.size W11 X → Calls Try.prog 16 #[.agg #[.string a.root.group, .string a.root.artifact, .string a.root.version, .slice xo a.pins.length xc], .agg #[.string a.root.group, .string a.root.artifact, .string a.root.version, .slice ao a.pins.length ac]] X fun e w' => e = .returned (.bool true) ∧ Below X.heap.size X w') := fun X h => by
      have h1 := sameLock_any a a (.slice xo a.pins.length xc) (.slice ao a.pins.length ac) X (HU2.out.below h) (HA.out.below (HB11.out.trans (h.mono HB11.out.size)))
      rw [decide_eq_true (rfl : a = a)] at h1
      exact h1
    have HC3 : Hid (∀ X, Below W11.heap.size W11 X → Calls Try.prog 16 #[.agg #[.string a.root.group, .string a.root.artifact, .string a.root.version, .slice zo a.pins.length zc], .agg #[.string a.root.group, .string a.root.artifact, .string a.root.version, .slice ao a.pins.length ac]] X fun e w' => e = .returned (.bool true) ∧ Below X.heap.size X w') := fun X h => by
      have h1 := sameLock_any a a (.slice zo a.pins.length zc) (.slice ao a.pins.length ac) X (HU3.out.below h) (HA.out.below (HB11.out.trans (h.mono HB11.out.size)))
      rw [decide_eq_true (rfl : a = a)] at h1
      exact h1
    have HC4 : Hid (∀ X, Below W11.heap.size W11 X → Calls Try.prog 9 #[.agg #[.string a.root.group, .string a.root.artifact, .string a.root.version, .slice ao a.pins.length ac], .agg #[.string a.root.group, .string a.root.artifact, .string a.root.version, .slice ao a.pins.length ac]] X fun e w' => ∃ vo vc, e = .returned (.slice vo 0 vc) ∧ Below X.heap.size X w') := fun X h => HED3.out X (HB11.out.trans (h.mono HB11.out.size))
    have HC5 : Hid (∀ X, Below W11.heap.size W11 X → Calls Try.prog 18 #[.slice lo el.length lc] X fun e w' => ∃ v', e = .returned v' ∧ SliceOf 18 editC w' v' (turnE el) ∧ Below X.heap.size X w') := fun X h => HTU.out X _ (HE11.out.below h)
    have HC6 : Hid (∀ X, Below W11.heap.size W11 X → Calls Try.prog 9 #[.agg #[.string a.root.group, .string a.root.artifact, .string a.root.version, .slice bo b.pins.length bc], .agg #[.string a.root.group, .string a.root.artifact, .string a.root.version, .slice ao a.pins.length ac]] X fun e w' => ∃ v', e = .returned v' ∧ SliceOf 18 editC w' v' (turnE el) ∧ Below X.heap.size X w') := fun X h => (HED2.out X (HB11.out.trans (h.mono HB11.out.size))).mono fun _ _ ⟨v', h1, h2, h3⟩ => ⟨v', h1, h2.slice editC_len, h3⟩
    have HC7 : Hid (∀ X v u, SliceOf 18 editC X v (turnE el) → SliceOf 18 editC X u (turnE el) → Calls Try.prog 10 #[v, u] X fun e w' => e = .returned (.bool true) ∧ Below X.heap.size X w') := fun X v u hv hu => by
      have h1 := refSame_any (turnE el) (turnE el) v u X hv hu
      rw [decide_eq_true (rfl : turnE el = turnE el)] at h1
      exact h1
    have HBD : Hid (Below W11.heap.size W11 W11.drew) := belowN (Below.refl _ _) 1
    clear HED2 HED3 HTU HU1 HU2 HU3 HE11
    have y_0 := HY2.out.cell 0 _ rfl
    have y_1 := HY2.out.cell 1 _ rfl
    have y_2 := HY2.out.cell 2 _ rfl
    have y_3 := HY2.out.cell 3 _ rfl
    have ly := HY2.out.lt
    have q_0 := HY3.out.cell 0 _ rfl
    have q_1 := HY3.out.cell 1 _ rfl
    have q_2 := HY3.out.cell 2 _ rfl
    have q_3 := HY3.out.cell 3 _ rfl
    have lq := HY3.out.lt
    have r_0 := HY6.out.cell 0 _ rfl
    have r_1 := HY6.out.cell 1 _ rfl
    have r_2 := HY6.out.cell 2 _ rfl
    have r_3 := HY6.out.cell 3 _ rfl
    have lr := HY6.out.lt
    have s_0 := HY8.out.cell 0 _ rfl
    have s_1 := HY8.out.cell 1 _ rfl
    have s_2 := HY8.out.cell 2 _ rfl
    have s_3 := HY8.out.cell 3 _ rfl
    have ls := HY8.out.lt
    have t_0 := HY10.out.cell 0 _ rfl
    have t_1 := HY10.out.cell 1 _ rfl
    have t_2 := HY10.out.cell 2 _ rfl
    have t_3 := HY10.out.cell 3 _ rfl
    have lt := HY10.out.lt
    go_region_held3 (fun w' => ∀ b o, b < W11.heap.size → w'.cell? ⟨b, o, none⟩ = W11.cell? ⟨b, o, none⟩) (first | (intro b o h; rfl) | exact fun b o h => hB3.cell h | exact fun b o h => hB4.cell h | exact fun b o h => hB5.cell h | exact fun b o h => hB6.cell h | exact fun b o h => hB7.cell h | exact fun b o h => hB8.cell h | exact fun b o h => hB9.cell h | exact fun b o h => hB10.cell h) (first | (have _x := hB9; go_at_call 8; refine (lives_any _).mono ?_; rintro e w10 ⟨rfl, hb10'⟩; have hB10 := hB9.trans (hb10'.mono hB9.size)) | (have _x := hB8; go_at_call 10; refine (HC7.out _ _ _ (ht7.below hb8x) ht8).mono ?_; rintro e w9 ⟨rfl, hb9'⟩; have hB9 := hB8.trans (hb9'.mono hB8.size)) | (have _x := hB7; go_at_call 9; refine (HC6.out _ hB7).mono ?_; rintro e w8 ⟨ev8, rfl, ht8, hb8x⟩; have hb8' := hb8x; have hB8 := hB7.trans (hb8'.mono hB7.size)) | (have _x := hB6; go_at_call 18; refine (HC5.out _ hB6).mono ?_; rintro e w7 ⟨tv7, rfl, ht7, hb7'⟩; have hB7 := hB6.trans (hb7'.mono hB6.size)) | (have _x := hB5; go_at_call 9; refine (HC4.out _ hB5).mono ?_; rintro e w6 ⟨eo, ec, rfl, hb6'⟩; have hB6 := hB5.trans (hb6'.mono hB5.size)) | (have _x := hB4; go_at_call 16; refine (HC3.out _ hB4).mono ?_; rintro e w5 ⟨rfl, hb5'⟩; have hB5 := hB4.trans (hb5'.mono hB4.size)) | (have _x := hB3; go_at_call 16; refine (HC2.out _ hB3).mono ?_; rintro e w4 ⟨rfl, hb4'⟩; have hB4 := hB3.trans (hb4'.mono hB3.size)) | (go_at_call 16; refine (HC1.out _ HBD.out).mono ?_; rintro e w3 ⟨rfl, hb3'⟩; have hB3 := HBD.out.trans (hb3'.mono HBD.out.size)))
    go_wp2
    go_ret
    exact ⟨rfl, HB11.out.trans (hB10.mono HB11.out.size)⟩
  case step =>
    rintro listed a' w' ⟨f0, f1, f2, f3, f4, f5, f6, f7, f8, f9, tv, xo, xc, p, rfl, rfl, c3, c4, c5, c6, c8, c78, hB, h2, h3, h7, hk⟩ i hi
    rw [mem_ready] at hi
    obtain ⟨hu, o, ho, ha⟩ := hi
    have hi8 : i < 10 := (Array.getElem?_eq_some_iff.1 ho).1
    rcases (by omega : i = 0 ∨ i = 1 ∨ i = 2 ∨ i = 3 ∨ i = 4 ∨ i = 5 ∨ i = 6 ∨ i = 7 ∨ i = 8 ∨ i = 9) with rfl | rfl | rfl | rfl | rfl | rfl | rfl | rfl | rfl | rfl
    · have ho' := ho
      simp at hu ho
      subst hu ho
      clear ha
      have hS := hB.size
      have k0 := (hB.cell (p := ⟨w.heap.size + 1, 0, none⟩) (by exact l3)).trans q0
      have k1 := (hB.cell (p := ⟨w.heap.size + 1, 1, none⟩) (by exact l3)).trans q1
      have k2 := (hB.cell (p := ⟨w.heap.size + 1, 2, none⟩) (by exact l3)).trans q2
      have k3 := (hB.cell (p := ⟨w.heap.size + 1, 3, none⟩) (by exact l3)).trans q3
      refine .inl ?_
      unfold dbkUpd Oper.wp
      go_simp
      exact ⟨true, f1, f2, f3, f4, f5, f6, f7, f8, f9, tv, xo, xc, p, rfl, rfl, c3, c4, c5, c6, c8, c78, hB, h2, h3, h7, hk⟩
    · have ho' := ho
      simp at hu ho
      subst hu ho
      clear ha
      have hS := hB.size
      refine .inl ?_
      unfold dbkUpd Oper.wp
      go_simp
      exact ⟨f0, true, f2, f3, f4, f5, f6, f7, f8, f9, tv, xo, xc, p, rfl, rfl, c3, c4, c5, c6, c8, c78, hB, h2, h3, h7, hk⟩
    · have ho' := ho
      simp at hu ho
      subst hu ho
      simp [Region.binds] at ha
      obtain rfl : f1 = true := by simp_all
      clear ha
      have hS := hB.size
      have e3 : f3 = false := Bool.eq_false_iff.2 fun h => (Bool.false_ne_true (c3.out h))
      subst e3
      have e8 : f8 = false := Bool.eq_false_iff.2 fun h => (Bool.false_ne_true (c8.out h))
      subst e8
      refine .inl ?_
      unfold dbkUpd Oper.wp
      go_simp
      refine (HTN.out w' hB).mono ?_
      rintro e w1 ⟨tv1, rfl, hs1, hb⟩
      exact ⟨f0, true, true, false, f4, f5, f6, f7, false, f9, tv1, xo, xc, p, rfl, rfl, Lib.hid (by simp), c4, c5, c6, Lib.hid (by simp), Lib.hid (by simp), hB.trans (hb.mono hS), fun _ _ => hs1, by simp, fun h => ⟨(h7 h).1, (h7 h).2.below hb (h7 h).2.lt⟩, by simp⟩
    · have ho' := ho
      simp at hu ho
      subst hu ho
      simp [Region.binds] at ha
      obtain rfl : f0 = true := by simp_all
      obtain rfl : f2 = true := by simp_all
      clear ha
      have hS := hB.size
      have hs2 := h2 rfl rfl
      have e8 : f8 = false := Bool.eq_false_iff.2 fun h => (Bool.false_ne_true (c8.out h))
      have e4 : f4 = false := Bool.eq_false_iff.2 fun h => (Bool.false_ne_true (c4.out h))
      subst e4
      have e5 : f5 = false := Bool.eq_false_iff.2 fun h => (Bool.false_ne_true (c5.out h))
      have e6 : f6 = false := Bool.eq_false_iff.2 fun h => (Bool.false_ne_true (c6.out h))
      subst e5 e6 e8
      refine .inl ?_
      unfold dbkUpd Oper.wp
      go_simp
      refine (HP2.out w' tv hB hs2).mono ?_
      rintro e w1 ⟨xo1, xc1, rfl, hs1, hnew, hb⟩
      exact ⟨true, f1, true, true, false, false, false, f7, false, f9, tv, xo1, xc1, p, rfl, rfl, Lib.hid (by simp), Lib.hid (by simp), Lib.hid (by simp), Lib.hid (by simp), Lib.hid (by simp), Lib.hid (by simp), hB.trans (hb.mono hS), by simp, fun _ => hs1, fun h => ⟨(h7 h).1, (h7 h).2.below hb (h7 h).2.lt⟩, fun _ h w'' hg => hs1.grownN hg fun b o s e => by have h5 := hnew b o s e; have h6 := (h7 h).2.lt; omega⟩
    · have ho' := ho
      simp at hu ho
      subst hu ho
      simp [Region.binds] at ha
      obtain rfl : f3 = true := by simp_all
      clear ha
      have hS := hB.size
      refine .inl ?_
      unfold dbkUpd Oper.wp
      go_simp
      exact ⟨f0, f1, f2, true, true, f5, f6, f7, f8, f9, tv, xo, xc, p, rfl, rfl, c3, Lib.hid (by simp), Lib.hid (by simp), Lib.hid (by simp), c8, c78, hB, h2, h3, h7, hk⟩
    · have ho' := ho
      simp at hu ho
      subst hu ho
      simp [Region.binds] at ha
      obtain rfl : f4 = true := by simp_all
      clear ha
      have hS := hB.size
      refine .inl ?_
      unfold dbkUpd Oper.wp
      go_simp
      exact ⟨f0, f1, f2, f3, true, true, f6, f7, f8, f9, tv, xo, xc, p, rfl, rfl, c3, c4, Lib.hid (by simp), c6, c8, c78, hB, h2, h3, h7, hk⟩
    · have ho' := ho
      simp at hu ho
      subst hu ho
      simp [Region.binds] at ha
      obtain rfl : f4 = true := by simp_all
      clear ha
      have hS := hB.size
      refine .inl ?_
      unfold dbkUpd Oper.wp
      go_simp
      exact ⟨f0, f1, f2, f3, true, f5, true, f7, f8, f9, tv, xo, xc, p, rfl, rfl, c3, c4, c5, Lib.hid (by simp), c8, c78, hB, h2, h3, h7, hk⟩
    · have ho' := ho
      simp at hu ho
      subst hu ho
      clear ha
      have hS := hB.size
      have e8 := c78.out rfl
      subst e8
      refine .inl ?_
      unfold dbkUpd Oper.wp
      go_simp
      exact ⟨f0, f1, f2, f3, f4, f5, f6, true, false, f9, tv, xo, xc, w'.heap.size, rfl, rfl, c3, c4, c5, c6, Lib.hid (by simp), Lib.hid (by simp), hB.alloc hS _, fun h h9 => (h2 h h9).below ((Below.refl _ _).alloc (Nat.le_refl _) _), fun h => (h3 h).below ((Below.refl _ _).alloc (Nat.le_refl _) _), fun _ => ⟨hS, Box.new w' [.string ⟨#[]⟩, .string ⟨#[]⟩, .string ⟨#[]⟩, .slice none 0 0] _ _ rfl⟩, fun h _ w'' hg => (h3 h).below (below_new hg)⟩
    · have ho' := ho
      simp at hu ho
      subst hu ho
      simp [Region.binds] at ha
      obtain rfl : f7 = true := by simp_all
      obtain rfl : f5 = true := by simp_all
      obtain rfl : f4 = true := by simp_all
      obtain rfl : f3 = true := by simp_all
      obtain rfl : f2 = true := by simp_all
      clear ha
      have hS := hB.size
      obtain ⟨hp1, hp2⟩ := h7 rfl
      skip
      have z0 := hp2.cell 0 _ rfl
      have z1 := hp2.cell 1 _ rfl
      have z2 := hp2.cell 2 _ rfl
      have z3 := hp2.cell 3 _ rfl
      have u0 := hp2.free 0
      have u1 := hp2.free 1
      have u2 := hp2.free 2
      have u3 := hp2.free 3
      have pl := hp2.lt
      refine .inl ?_
      unfold dbkUpd Oper.wp
      go_simp
      exact ⟨f0, f1, true, true, true, true, f6, true, true, f9, tv, xo, xc, p, rfl, rfl, Lib.hid (by simp), c4, c5, c6, Lib.hid (by simp), Lib.hid (by simp), (((hB.setCell (by exact hp1) _).setCell (by exact hp1) _).setCell (by exact hp1) _).setCell (by exact hp1) _, by simp, fun _ => hk rfl rfl _ (grown4 _ _ _ _ _ _), fun _ => ⟨hp1, (((hp2.set 0 _).set 1 _).set 2 _).set 3 _⟩, fun _ _ w'' hg => hk rfl rfl _ (grown_trans (grown4 _ _ _ _ _ _) hg)⟩
    · have ho' := ho
      simp at hu ho
      subst hu ho
      simp [Region.binds] at ha
      obtain rfl : f6 = true := by simp_all
      clear ha
      have hS := hB.size
      refine .inl ?_
      unfold dbkUpd Oper.wp
      go_simp
      exact ⟨f0, f1, f2, f3, f4, f5, true, f7, f8, true, tv, xo, xc, p, rfl, rfl, c3, c4, c5, c6, c8, c78, hB, h2, h3, h7, hk⟩

end Go.Proofs.Ytmcjpmogjmnfpaa
