/- Walks: diff.side at edits; the conditions stand in the theorems. -/
import Derived.Test.YtmcjpmogjmnfpaaL35b
import Derived.Test.YtmcjpmogjmnfpaaL14
namespace Go.Proofs.Ytmcjpmogjmnfpaa
open Go Go.RowKit

theorem okM_nn : okM [] [] = true := by unfold okM; rw [mergeE]; rfl
theorem okM_ln (p : Edit) (l : List Edit) : okM (p :: l) [] = okM l [] := by unfold okM; rw [mergeE]; simp [okJ]
theorem okM_nm (q : Edit) (m : List Edit) : okM [] (q :: m) = okM [] m := by unfold okM; rw [mergeE]; simp [okJ]
theorem okM_lt {p q : Edit} {l m : List Edit} (h : cmpK p.key q.key = -1) : okM (p :: l) (q :: m) = okM l (q :: m) := by unfold okM; rw [mergeE, if_pos h]; simp [okJ]
theorem okM_gt {p q : Edit} {l m : List Edit} (h0 : cmpK p.key q.key ≠ -1) (h : cmpK p.key q.key = 1) : okM (p :: l) (q :: m) = okM (p :: l) m := by unfold okM; rw [mergeE, if_neg h0, if_pos h]; simp [okJ]
theorem okM_eq {p q : Edit} {l m : List Edit} (h0 : cmpK p.key q.key ≠ -1) (h : cmpK p.key q.key ≠ 1) : okM (p :: l) (q :: m) = (okJ (some p) (some q) && okM l m) := by unfold okM; rw [mergeE, if_neg h0, if_neg h, List.all_append]; simp
theorem joinE_nn : joinE [] [] = [] := by unfold joinE; rw [mergeE]
theorem joinE_ln (p : Edit) (l : List Edit) : joinE (p :: l) [] = oneJ p.key (some p) none ++ joinE l [] := by unfold joinE; rw [mergeE]
theorem joinE_nm (q : Edit) (m : List Edit) : joinE [] (q :: m) = oneJ q.key none (some q) ++ joinE [] m := by unfold joinE; rw [mergeE]
theorem joinE_lt {p q : Edit} {l m : List Edit} (h : cmpK p.key q.key = -1) : joinE (p :: l) (q :: m) = oneJ p.key (some p) none ++ joinE l (q :: m) := by unfold joinE; rw [mergeE, if_pos h]
theorem joinE_gt {p q : Edit} {l m : List Edit} (h0 : cmpK p.key q.key ≠ -1) (h : cmpK p.key q.key = 1) : joinE (p :: l) (q :: m) = oneJ q.key none (some q) ++ joinE (p :: l) m := by unfold joinE; rw [mergeE, if_neg h0, if_pos h]
theorem joinE_eq {p q : Edit} {l m : List Edit} (h0 : cmpK p.key q.key ≠ -1) (h : cmpK p.key q.key ≠ 1) : joinE (p :: l) (q :: m) = oneJ p.key (some p) (some q) ++ joinE l m := by unfold joinE; rw [mergeE, if_neg h0, if_neg h]
theorem cj_l (k : Key) (w : World) (B : Nat) (l : List Edit) (ok : Bool) (ho : JoinAt B w l ok) (hl : l.length ≤ 1000) (x : Edit) (g1 o1 : Nat) (h1 : EditAt w g1 o1 x) : Calls Try.prog 40 #[.agg #[.string k.group, .string k.artifact, .string k.type, .string k.classifier], .pointer (some ⟨g1, o1, none⟩), .pointer none, .pointer (some ⟨B, 0, none⟩), .pointer (some ⟨B + 1, 0, none⟩)] w fun e w' => e = .returned (.tuple #[]) ∧ JoinAt B w' (l ++ oneJ k (some x) none) (ok && okJ (some x) none) ∧ Below B w w' := by
  rw [show (ok && okJ (some x) none) = ok from Bool.and_true ok]
  exact join_l k w B l ok ho hl x g1 o1 h1
theorem cj_m (k : Key) (w : World) (B : Nat) (l : List Edit) (ok : Bool) (ho : JoinAt B w l ok) (hl : l.length ≤ 1000) (y : Edit) (g2 o2 : Nat) (h2 : EditAt w g2 o2 y) : Calls Try.prog 40 #[.agg #[.string k.group, .string k.artifact, .string k.type, .string k.classifier], .pointer none, .pointer (some ⟨g2, o2, none⟩), .pointer (some ⟨B, 0, none⟩), .pointer (some ⟨B + 1, 0, none⟩)] w fun e w' => e = .returned (.tuple #[]) ∧ JoinAt B w' (l ++ oneJ k none (some y)) (ok && okJ none (some y)) ∧ Below B w w' := by
  rw [show (ok && okJ none (some y)) = ok from Bool.and_true ok]
  exact join_r k w B l ok ho hl y g2 o2 h2
theorem cj_b (k : Key) (w : World) (B : Nat) (l : List Edit) (ok : Bool) (ho : JoinAt B w l ok) (hl : l.length ≤ 1000) (x : Edit) (g1 o1 : Nat) (h1 : EditAt w g1 o1 x) (y : Edit) (g2 o2 : Nat) (h2 : EditAt w g2 o2 y) : Calls Try.prog 40 #[.agg #[.string k.group, .string k.artifact, .string k.type, .string k.classifier], .pointer (some ⟨g1, o1, none⟩), .pointer (some ⟨g2, o2, none⟩), .pointer (some ⟨B, 0, none⟩), .pointer (some ⟨B + 1, 0, none⟩)] w fun e w' => e = .returned (.tuple #[]) ∧ JoinAt B w' (l ++ oneJ k (some x) (some y)) (ok && okJ (some x) (some y)) ∧ Below B w w' := by
  obtain ⟨k1, had1, has1, old1, new1⟩ := x
  obtain ⟨k2, had2, has2, old2, new2⟩ := y
  cases hh : has1 == had2 with
  | false =>
    have e1 : oneJ k (some ⟨k1, had1, has1, old1, new1⟩) (some ⟨k2, had2, has2, old2, new2⟩) = [] := by
      simp only [oneJ]; rw [if_pos (.inl (by simpa using hh))]
    rw [e1, List.append_nil, show (ok && okJ (some ⟨k1, had1, has1, old1, new1⟩) (some ⟨k2, had2, has2, old2, new2⟩)) = false by simp [okJ, hh]]
    exact join_n1 k w B l ok ho hl k1 k2 had1 has1 had2 has2 old1 new1 old2 new2 g1 o1 g2 o2 h1 h2 hh
  | true =>
    have he : has1 = had2 := by simpa using hh
    cases hn : pinEq new1 old2 with
    | false =>
      have hne : new1 ≠ old2 := of_decide_eq_false hn
      have e1 : oneJ k (some ⟨k1, had1, has1, old1, new1⟩) (some ⟨k2, had2, has2, old2, new2⟩) = [] := by
        simp only [oneJ]; rw [if_pos (.inr hne)]
      rw [e1, List.append_nil, show (ok && okJ (some ⟨k1, had1, has1, old1, new1⟩) (some ⟨k2, had2, has2, old2, new2⟩)) = false by simp [okJ, hne]]
      exact join_n2 k w B l ok ho hl k1 k2 had1 has1 had2 has2 old1 new1 old2 new2 g1 o1 g2 o2 h1 h2 hh hn
    | true =>
      have hne : new1 = old2 := of_decide_eq_true hn
      have e0 : okJ (some ⟨k1, had1, has1, old1, new1⟩) (some ⟨k2, had2, has2, old2, new2⟩) = true := by simp [okJ, he, hne]
      rw [e0, Bool.and_true]
      cases hf : had1 == has2 with
      | false =>
        have e1 : oneJ k (some ⟨k1, had1, has1, old1, new1⟩) (some ⟨k2, had2, has2, old2, new2⟩) = [⟨k, had1, has2, old1, new2⟩] := by
          simp only [oneJ]; rw [if_neg (by simp [he, hne]), if_pos (.inl (by simpa using hf))]
        rw [e1]
        exact join_p1 k w B l ok ho hl k1 k2 had1 has1 had2 has2 old1 new1 old2 new2 g1 o1 g2 o2 h1 h2 hh hn hf
      | true =>
        have hfe : had1 = has2 := by simpa using hf
        cases hp : pinEq old1 new2 with
        | false =>
          have e1 : oneJ k (some ⟨k1, had1, has1, old1, new1⟩) (some ⟨k2, had2, has2, old2, new2⟩) = [⟨k, had1, has2, old1, new2⟩] := by
            simp only [oneJ]; rw [if_neg (by simp [he, hne]), if_pos (.inr (of_decide_eq_false hp))]
          rw [e1]
          exact join_p2 k w B l ok ho hl k1 k2 had1 has1 had2 has2 old1 new1 old2 new2 g1 o1 g2 o2 h1 h2 hh hn hf hp
        | true =>
          have hpe : old1 = new2 := of_decide_eq_true hp
          have e1 : oneJ k (some ⟨k1, had1, has1, old1, new1⟩) (some ⟨k2, had2, has2, old2, new2⟩) = [] := by
            simp only [oneJ]; rw [if_neg (by simp [he, hne]), if_neg (by simp [hfe, hpe])]
          rw [e1, List.append_nil]
          exact join_s k w B l ok ho hl k1 k2 had1 has1 had2 has2 old1 new1 old2 new2 g1 o1 g2 o2 h1 h2 hh hn hf hp
def sidelUpd (p : Edit) (g1 o1 : Nat) (x0 x1 x2 x3 x4 x5 x6 x7 x8 x9 x10 x11 x12 x13 x14 x15 x16 x17 x18 x19 x20 x21 x22 x23 x24 x25 x26 x27 x28 x29 x30 x31 x32 x33 x34 x35 x36 x37 x38 x39 x40 x41 x42 x43 x44 x45 x46 x47 x48 x49 x50 x51 x52 x53 y54 y55 y56 y57 y58 y59 y60 y61 y62 x63 x64 x65 x66 x67 x68 x69 x70 x71 x72 x73 x74 x75 x76 x77 x78 : Value) (f0 f1 f2 f3 f4 f5 f6 f7 f8 : Bool)  : Act :=
  ⟨#[x0, x1, x2, x3, x4, x5, x6, x7, x8, x9, x10, x11, x12, x13, x14, x15, x16, x17, x18, x19, x20, x21, x22, x23, x24, x25, x26, x27, x28, x29, x30, x31, x32, x33, x34, x35, x36, x37, x38, x39, x40, x41, x42, x43, x44, x45, x46, x47, x48, x49, x50, x51, x52, x53, cond f0 (x3) y54, cond f1 (x2) y55, cond f2 (x0) y56, cond f3 (.pointer (some ⟨g1, o1, none⟩)) y57, cond f4 (.agg (editC p).toArray) y58, cond f5 (.agg #[.string p.key.group, .string p.key.artifact, .string p.key.type, .string p.key.classifier]) y59, cond f6 (x0) y60, cond f7 (.pointer (some ⟨g1, o1, none⟩)) y61, cond f8 (.tuple #[]) y62, x63, x64, x65, x66, x67, x68, x69, x70, x71, x72, x73, x74, x75, x76, x77, x78], []⟩
def sidelJ (p : Edit) (g1 o1 : Nat) (B : Nat) (out : List Edit) (ok : Bool) (V : World) (x0 x1 x2 x3 x4 x5 x6 x7 x8 x9 x10 x11 x12 x13 x14 x15 x16 x17 x18 x19 x20 x21 x22 x23 x24 x25 x26 x27 x28 x29 x30 x31 x32 x33 x34 x35 x36 x37 x38 x39 x40 x41 x42 x43 x44 x45 x46 x47 x48 x49 x50 x51 x52 x53 y54 y55 y56 y57 y58 y59 y60 y61 y62 x63 x64 x65 x66 x67 x68 x69 x70 x71 x72 x73 x74 x75 x76 x77 x78 : Value) (listed : Array Bool) (atx : Act) (w' : World) : Prop :=
  ∃ (f0 f1 f2 f3 f4 f5 f6 f7 f8 : Bool) , listed = #[f0, f1, f2, f3, f4, f5, f6, f7, f8] ∧ atx = sidelUpd p g1 o1 x0 x1 x2 x3 x4 x5 x6 x7 x8 x9 x10 x11 x12 x13 x14 x15 x16 x17 x18 x19 x20 x21 x22 x23 x24 x25 x26 x27 x28 x29 x30 x31 x32 x33 x34 x35 x36 x37 x38 x39 x40 x41 x42 x43 x44 x45 x46 x47 x48 x49 x50 x51 x52 x53 y54 y55 y56 y57 y58 y59 y60 y61 y62 x63 x64 x65 x66 x67 x68 x69 x70 x71 x72 x73 x74 x75 x76 x77 x78 f0 f1 f2 f3 f4 f5 f6 f7 f8  ∧ Hid (f5 = true → f4 = true) ∧ Hid (f8 = true → f5 = true) ∧ (f8 = false → Below V.heap.size V w') ∧ (f8 = true → JoinAt B w' (out ++ oneJ p.key (some p) none) (ok && okJ (some p) none) ∧ Below B V w')
def sidemUpd (q : Edit) (g2 o2 : Nat) (x0 x1 x2 x3 x4 x5 x6 x7 x8 x9 x10 x11 x12 x13 x14 x15 x16 x17 x18 x19 x20 x21 x22 x23 x24 x25 x26 x27 x28 x29 x30 x31 x32 x33 x34 x35 x36 x37 x38 x39 x40 x41 x42 x43 x44 x45 x46 x47 x48 x49 x50 x51 x52 x53 x54 x55 x56 x57 x58 x59 x60 x61 x62 x63 x64 x65 x66 x67 y68 y69 y70 y71 y72 y73 y74 y75 y76 x77 x78 : Value) (f0 f1 f2 f3 f4 f5 f6 f7 f8 : Bool)  : Act :=
  ⟨#[x0, x1, x2, x3, x4, x5, x6, x7, x8, x9, x10, x11, x12, x13, x14, x15, x16, x17, x18, x19, x20, x21, x22, x23, x24, x25, x26, x27, x28, x29, x30, x31, x32, x33, x34, x35, x36, x37, x38, x39, x40, x41, x42, x43, x44, x45, x46, x47, x48, x49, x50, x51, x52, x53, x54, x55, x56, x57, x58, x59, x60, x61, x62, x63, x64, x65, x66, x67, cond f0 (x3) y68, cond f1 (x2) y69, cond f2 (x1) y70, cond f3 (.pointer (some ⟨g2, o2, none⟩)) y71, cond f4 (.agg (editC q).toArray) y72, cond f5 (.agg #[.string q.key.group, .string q.key.artifact, .string q.key.type, .string q.key.classifier]) y73, cond f6 (x1) y74, cond f7 (.pointer (some ⟨g2, o2, none⟩)) y75, cond f8 (.tuple #[]) y76, x77, x78], []⟩
def sidemJ (q : Edit) (g2 o2 : Nat) (B : Nat) (out : List Edit) (ok : Bool) (V : World) (x0 x1 x2 x3 x4 x5 x6 x7 x8 x9 x10 x11 x12 x13 x14 x15 x16 x17 x18 x19 x20 x21 x22 x23 x24 x25 x26 x27 x28 x29 x30 x31 x32 x33 x34 x35 x36 x37 x38 x39 x40 x41 x42 x43 x44 x45 x46 x47 x48 x49 x50 x51 x52 x53 x54 x55 x56 x57 x58 x59 x60 x61 x62 x63 x64 x65 x66 x67 y68 y69 y70 y71 y72 y73 y74 y75 y76 x77 x78 : Value) (listed : Array Bool) (atx : Act) (w' : World) : Prop :=
  ∃ (f0 f1 f2 f3 f4 f5 f6 f7 f8 : Bool) , listed = #[f0, f1, f2, f3, f4, f5, f6, f7, f8] ∧ atx = sidemUpd q g2 o2 x0 x1 x2 x3 x4 x5 x6 x7 x8 x9 x10 x11 x12 x13 x14 x15 x16 x17 x18 x19 x20 x21 x22 x23 x24 x25 x26 x27 x28 x29 x30 x31 x32 x33 x34 x35 x36 x37 x38 x39 x40 x41 x42 x43 x44 x45 x46 x47 x48 x49 x50 x51 x52 x53 x54 x55 x56 x57 x58 x59 x60 x61 x62 x63 x64 x65 x66 x67 y68 y69 y70 y71 y72 y73 y74 y75 y76 x77 x78 f0 f1 f2 f3 f4 f5 f6 f7 f8  ∧ Hid (f5 = true → f4 = true) ∧ Hid (f8 = true → f5 = true) ∧ (f8 = false → Below V.heap.size V w') ∧ (f8 = true → JoinAt B w' (out ++ oneJ q.key none (some q)) (ok && okJ none (some q)) ∧ Below B V w')
def sidebUpd (p : Edit) (g1 o1 : Nat) (g2 o2 : Nat) (x0 x1 x2 x3 x4 x5 x6 x7 x8 x9 x10 x11 x12 x13 x14 x15 x16 x17 x18 x19 x20 x21 x22 x23 x24 x25 x26 x27 x28 x29 x30 x31 x32 x33 x34 x35 y36 y37 y38 y39 y40 y41 y42 y43 y44 y45 y46 x47 x48 x49 x50 x51 x52 x53 x54 x55 x56 x57 x58 x59 x60 x61 x62 x63 x64 x65 x66 x67 x68 x69 x70 x71 x72 x73 x74 x75 x76 x77 x78 : Value) (f0 f1 f2 f3 f4 f5 f6 f7 f8 f9 f10 : Bool)  : Act :=
  ⟨#[x0, x1, x2, x3, x4, x5, x6, x7, x8, x9, x10, x11, x12, x13, x14, x15, x16, x17, x18, x19, x20, x21, x22, x23, x24, x25, x26, x27, x28, x29, x30, x31, x32, x33, x34, x35, cond f0 (x3) y36, cond f1 (x2) y37, cond f2 (x0) y38, cond f3 (.pointer (some ⟨g1, o1, none⟩)) y39, cond f4 (.agg (editC p).toArray) y40, cond f5 (.agg #[.string p.key.group, .string p.key.artifact, .string p.key.type, .string p.key.classifier]) y41, cond f6 (x0) y42, cond f7 (.pointer (some ⟨g1, o1, none⟩)) y43, cond f8 (x1) y44, cond f9 (.pointer (some ⟨g2, o2, none⟩)) y45, cond f10 (.tuple #[]) y46, x47, x48, x49, x50, x51, x52, x53, x54, x55, x56, x57, x58, x59, x60, x61, x62, x63, x64, x65, x66, x67, x68, x69, x70, x71, x72, x73, x74, x75, x76, x77, x78], []⟩
def sidebJ (p q : Edit) (g1 o1 g2 o2 : Nat) (B : Nat) (out : List Edit) (ok : Bool) (V : World) (x0 x1 x2 x3 x4 x5 x6 x7 x8 x9 x10 x11 x12 x13 x14 x15 x16 x17 x18 x19 x20 x21 x22 x23 x24 x25 x26 x27 x28 x29 x30 x31 x32 x33 x34 x35 y36 y37 y38 y39 y40 y41 y42 y43 y44 y45 y46 x47 x48 x49 x50 x51 x52 x53 x54 x55 x56 x57 x58 x59 x60 x61 x62 x63 x64 x65 x66 x67 x68 x69 x70 x71 x72 x73 x74 x75 x76 x77 x78 : Value) (listed : Array Bool) (atx : Act) (w' : World) : Prop :=
  ∃ (f0 f1 f2 f3 f4 f5 f6 f7 f8 f9 f10 : Bool) , listed = #[f0, f1, f2, f3, f4, f5, f6, f7, f8, f9, f10] ∧ atx = sidebUpd p g1 o1 g2 o2 x0 x1 x2 x3 x4 x5 x6 x7 x8 x9 x10 x11 x12 x13 x14 x15 x16 x17 x18 x19 x20 x21 x22 x23 x24 x25 x26 x27 x28 x29 x30 x31 x32 x33 x34 x35 y36 y37 y38 y39 y40 y41 y42 y43 y44 y45 y46 x47 x48 x49 x50 x51 x52 x53 x54 x55 x56 x57 x58 x59 x60 x61 x62 x63 x64 x65 x66 x67 x68 x69 x70 x71 x72 x73 x74 x75 x76 x77 x78 f0 f1 f2 f3 f4 f5 f6 f7 f8 f9 f10  ∧ Hid (f5 = true → f4 = true) ∧ Hid (f10 = true → f5 = true) ∧ (f10 = false → Below V.heap.size V w') ∧ (f10 = true → JoinAt B w' (out ++ oneJ p.key (some p) (some q)) (ok && okJ (some p) (some q)) ∧ Below B V w')

attribute [local go_sem ↓] sliced_cut in
set_option maxRecDepth 100000 in
set_option maxHeartbeats 16000000 in
theorem sideE_any (a b : List Edit) (av bv : Value) (w0 w : World) (B : Nat) (hb0 : Below w0.heap.size w0 w) (hB : w0.heap.size ≤ B) (hav : SliceOf 18 editC w0 av a) (hbv : SliceOf 18 editC w0 bv b) (ho : JoinAt B w [] true) (hl : a.length + b.length ≤ 1000) :
    Calls Try.prog 38 #[av, bv, .func (.func 39) #[] #[], .func (.func 40) #[] #[.pointer (some ⟨B, 0, none⟩), .pointer (some ⟨B + 1, 0, none⟩)]] w fun e w' => e = .returned (.tuple #[]) ∧ JoinAt B w' (joinE a b) (okM a b) ∧ Below B w w' := by
  have HB0 := Lib.hid hb0
  have HBB := Lib.hid hB
  have HA := Lib.hid hav
  have HM := Lib.hid hbv
  have HO := Lib.hid ho
  have HLL := Lib.hid hl
  clear hb0 hB hav hbv ho hl
  go_enter Try.func38, Try.ntmps38
  go_wp2_with fail
  go_loopw [0, 1] (fun lv mv wr => ∃ (l m out : List Edit) (ok : Bool), SliceOf 18 editC w0 lv l ∧ SliceOf 18 editC w0 mv m ∧ Hid (joinE a b = out ++ joinE l m) ∧ Hid (okM a b = (ok && okM l m)) ∧ JoinAt B wr out ok ∧ Below B w wr ∧ Hid (out.length + l.length + m.length ≤ a.length + b.length)) (fun lv mv _ => lenV lv + lenV mv)
  case atStart => exact ⟨a, b, [], true, HA.out, HM.out, rfl, (Bool.true_and _).symm, HO.out, Below.refl _ _, by show _ ≤ _; simp⟩
  case round =>
    obtain ⟨l, m, out, ok, hlv, hmv, HE, HK, ho, hb, HN⟩ := hrel
    obtain ⟨ao1, cap1, rfl⟩ := hlv.shape
    obtain ⟨ao2, cap2, rfl⟩ := hmv.shape
    have HL := Lib.hid hlv
    have HM2 := Lib.hid hmv
    have HOW := Lib.hid ho
    have HBW := Lib.hid hb
    have HW0 : Hid (Below w0.heap.size w0 wr) := HB0.out.trans (hb.mono HBB.out)
    clear hlv hmv ho hb
    cases l with
    | nil =>
      cases m with
      | nil =>
        go_wp2
        go_end0
        exact ⟨rfl, by have h1 := HE.out; have h2 := HK.out; rw [joinE_nn, List.append_nil] at h1; rw [okM_nn, Bool.and_true] at h2; rw [h1, h2]; exact HOW.out, HBW.out⟩
      | cons q m =>
        obtain ⟨g2, o2, rfl, hq0⟩ := HM2.out.editAt (k := 0) (by simp)
        have hqW : EditAt wr g2 o2 q := by have := hq0.below HW0.out; simpa using this
        have Hwq := Lib.hid hqW
        clear hq0 hqW
        go_wp2_with fail
        refine wp_world ?_
        intro V hV
        have HVW : Hid (Below wr.heap.size wr V) := by rw [hV]; exact Below.refl _ _
        clear hV
        have HOV : Hid (JoinAt B V out ok) := HOW.out.below HVW.out
        have HLE : Hid (out.length ≤ 1000) := by have h1 := HN.out; have h2 := HLL.out; show _ ≤ _; omega
        have Hq : Hid (EditAt V g2 o2 q) := Hwq.out.below HVW.out
        refine wp_region_flags0 (sidemJ q g2 o2 B out ok V _ _ _ _ _ _ _ _ _ _ _ _ _ _ _ _ _ _ _ _ _ _ _ _ _ _ _ _ _ _ _ _ _ _ _ _ _ _ _ _ _ _ _ _ _ _ _ _ _ _ _ _ _ _ _ _ _ _ _ _ _ _ _ _ _ _ _ _ _ _ _ _ _ _ _ _ _ _ _) (by kernel_rfl) 9 rfl (by kernel_rfl) ⟨false, false, false, false, false, false, false, false, false, rfl, rfl, Lib.hid (by simp), Lib.hid (by simp), fun _ => belowN (Below.refl _ _) 1, by simp⟩ ?fin ?step
        case fin =>
          rintro a' w' ⟨f0, f1, f2, f3, f4, f5, f6, f7, f8, hl, rfl, c4, c5, wA, wB⟩
          have hl' : [true, true, true, true, true, true, true, true, true] = [f0, f1, f2, f3, f4, f5, f6, f7, f8] := congrArg Array.toList hl
          simp only [List.cons.injEq, and_true] at hl'
          obtain ⟨rfl, rfl, rfl, rfl, rfl, rfl, rfl, rfl, rfl⟩ := hl'
          unfold sidemUpd
          simp only [cond_true]
          obtain ⟨ho2, hb2⟩ := wB rfl
          have HO2 := Lib.hid ho2
          have HB2 := Lib.hid hb2
          clear ho2 hb2 c4 c5 wA wB
          go_wp2
          go_roundw
          case rel =>
            refine ⟨[], m, out ++ oneJ q.key none (some q), ok && okJ none (some q), HL.out, (HM2.out.cut (k := 1) (by simp)), ?_, ?_, HO2.out, ?_, ?_⟩
            · show _ = _; rw [HE.out, joinE_nm, List.append_assoc]
            · show _ = _; rw [HK.out, okM_nm]; rw [show okJ none (some q) = true from rfl, Bool.and_true]
            · exact HBW.out.trans ((HVW.out.mono (Nat.le_of_lt (Nat.lt_of_succ_lt HOW.out.lt))).trans HB2.out)
            · have h1 := HN.out
              have h2 := oneJ_le q.key none (some q)
              show _ ≤ _
              simp only [List.length_append, List.length_cons, List.length_nil] at h1 ⊢
              omega
          case measure => simp [lenV]
        case step =>
          rintro listed a' w' ⟨f0, f1, f2, f3, f4, f5, f6, f7, f8, rfl, rfl, c4, c5, wA, wB⟩ i hi
          rw [mem_ready] at hi
          obtain ⟨hu, o, ho, ha⟩ := hi
          have hi8 : i < 9 := (Array.getElem?_eq_some_iff.1 ho).1
          rcases (by omega : i = 0 ∨ i = 1 ∨ i = 2 ∨ i = 3 ∨ i = 4 ∨ i = 5 ∨ i = 6 ∨ i = 7 ∨ i = 8) with rfl | rfl | rfl | rfl | rfl | rfl | rfl | rfl | rfl
          · have ho' := ho
            simp at hu ho
            subst hu ho
            clear ha
            refine .inl ?_
            unfold sidemUpd Oper.wp
            go_simp
            exact ⟨true, f1, f2, f3, f4, f5, f6, f7, f8, rfl, rfl, c4, c5, wA, wB⟩
          · have ho' := ho
            simp at hu ho
            subst hu ho
            clear ha
            refine .inl ?_
            unfold sidemUpd Oper.wp
            go_simp
            exact ⟨f0, true, f2, f3, f4, f5, f6, f7, f8, rfl, rfl, c4, c5, wA, wB⟩
          · have ho' := ho
            simp at hu ho
            subst hu ho
            clear ha
            refine .inl ?_
            unfold sidemUpd Oper.wp
            go_simp
            exact ⟨f0, f1, true, f3, f4, f5, f6, f7, f8, rfl, rfl, c4, c5, wA, wB⟩
          · have ho' := ho
            simp at hu ho
            subst hu ho
            simp [Region.binds] at ha
            obtain rfl : f2 = true := by simp_all
            clear ha
            refine .inl ?_
            unfold sidemUpd Oper.wp
            go_simp
            exact ⟨f0, f1, true, true, f4, f5, f6, f7, f8, rfl, rfl, c4, c5, wA, wB⟩
          · have ho' := ho
            simp at hu ho
            subst hu ho
            simp [Region.binds] at ha
            obtain rfl : f3 = true := by simp_all
            clear ha
            have e5 : f5 = false := Bool.eq_false_iff.2 fun h => (Bool.false_ne_true (c4.out h))
            subst e5
            have e8 : f8 = false := Bool.eq_false_iff.2 fun h => (Bool.false_ne_true (c5.out h))
            subst e8
            have hB := wA rfl
            unfold sidemUpd
            refine wpOp_do ho' (by rfl) ?_
            refine wp_load_mid 46 (.tmp 71) rfl g2 o2 rfl (editC q) _ (Hq.out.below hB).2 Try.underlying46 rfl size_edit ?_
            simp only [Act.put, List.setIfInBounds_toArray, List.set_cons_succ, List.set_cons_zero]
            exact ⟨f0, f1, f2, true, true, false, f6, f7, false, rfl, rfl, Lib.hid (by simp), c5, wA, wB⟩
          · have ho' := ho
            simp at hu ho
            subst hu ho
            simp [Region.binds] at ha
            obtain rfl : f1 = true := by simp_all
            obtain rfl : f4 = true := by simp_all
            clear ha
            have e8 : f8 = false := Bool.eq_false_iff.2 fun h => (Bool.false_ne_true (c5.out h))
            subst e8
            have hB := wA rfl
            refine .inl ?_
            unfold sidemUpd Oper.wp
            go_simp
            refine (editKey_any q _).mono ?_
            rintro e w1 ⟨rfl, hb⟩
            exact ⟨f0, true, f2, f3, true, true, f6, f7, false, rfl, rfl, Lib.hid (by simp), Lib.hid (by simp), fun _ => hB.trans (hb.mono hB.size), by simp⟩
          · have ho' := ho
            simp at hu ho
            subst hu ho
            clear ha
            refine .inl ?_
            unfold sidemUpd Oper.wp
            go_simp
            exact ⟨f0, f1, f2, f3, f4, f5, true, f7, f8, rfl, rfl, c4, c5, wA, wB⟩
          · have ho' := ho
            simp at hu ho
            subst hu ho
            simp [Region.binds] at ha
            obtain rfl : f6 = true := by simp_all
            clear ha
            refine .inl ?_
            unfold sidemUpd Oper.wp
            go_simp
            exact ⟨f0, f1, f2, f3, f4, f5, true, true, f8, rfl, rfl, c4, c5, wA, wB⟩
          · have ho' := ho
            simp at hu ho
            subst hu ho
            simp [Region.binds] at ha
            obtain rfl : f0 = true := by simp_all
            obtain rfl : f5 = true := by simp_all
            obtain rfl : f7 = true := by simp_all
            clear ha
            obtain rfl := c4.out rfl
            have hB := wA rfl
            refine .inl ?_
            unfold sidemUpd Oper.wp
            go_simp
            refine (cj_m q.key w' B out ok (HOV.out.below hB) HLE.out q g2 o2 (Hq.out.below hB)).mono ?_
            rintro e w1 ⟨rfl, hj, hb⟩
            exact ⟨true, f1, f2, f3, true, true, f6, true, true, rfl, rfl, Lib.hid (by simp), Lib.hid (by simp), by simp, fun _ => ⟨hj, (hB.mono (Nat.le_of_lt (Nat.lt_of_succ_lt HOV.out.lt))).trans hb⟩⟩
    | cons p l =>
      cases m with
      | nil =>
        obtain ⟨g1, o1, rfl, hp0⟩ := HL.out.editAt (k := 0) (by simp)
        have hpW : EditAt wr g1 o1 p := by have := hp0.below HW0.out; simpa using this
        have Hwp := Lib.hid hpW
        clear hp0 hpW
        go_wp2_with fail
        refine wp_world ?_
        intro V hV
        have HVW : Hid (Below wr.heap.size wr V) := by rw [hV]; exact Below.refl _ _
        clear hV
        have HOV : Hid (JoinAt B V out ok) := HOW.out.below HVW.out
        have HLE : Hid (out.length ≤ 1000) := by have h1 := HN.out; have h2 := HLL.out; show _ ≤ _; omega
        have Hp : Hid (EditAt V g1 o1 p) := Hwp.out.below HVW.out
        refine wp_region_flags0 (sidelJ p g1 o1 B out ok V _ _ _ _ _ _ _ _ _ _ _ _ _ _ _ _ _ _ _ _ _ _ _ _ _ _ _ _ _ _ _ _ _ _ _ _ _ _ _ _ _ _ _ _ _ _ _ _ _ _ _ _ _ _ _ _ _ _ _ _ _ _ _ _ _ _ _ _ _ _ _ _ _ _ _ _ _ _ _) (by kernel_rfl) 9 rfl (by kernel_rfl) ⟨false, false, false, false, false, false, false, false, false, rfl, rfl, Lib.hid (by simp), Lib.hid (by simp), fun _ => belowN (Below.refl _ _) 1, by simp⟩ ?fin ?step
        case fin =>
          rintro a' w' ⟨f0, f1, f2, f3, f4, f5, f6, f7, f8, hl, rfl, c4, c5, wA, wB⟩
          have hl' : [true, true, true, true, true, true, true, true, true] = [f0, f1, f2, f3, f4, f5, f6, f7, f8] := congrArg Array.toList hl
          simp only [List.cons.injEq, and_true] at hl'
          obtain ⟨rfl, rfl, rfl, rfl, rfl, rfl, rfl, rfl, rfl⟩ := hl'
          unfold sidelUpd
          simp only [cond_true]
          obtain ⟨ho2, hb2⟩ := wB rfl
          have HO2 := Lib.hid ho2
          have HB2 := Lib.hid hb2
          clear ho2 hb2 c4 c5 wA wB
          go_wp2
          go_roundw
          case rel =>
            refine ⟨l, [], out ++ oneJ p.key (some p) none, ok && okJ (some p) none, (HL.out.cut (k := 1) (by simp)), HM2.out, ?_, ?_, HO2.out, ?_, ?_⟩
            · show _ = _; rw [HE.out, joinE_ln, List.append_assoc]
            · show _ = _; rw [HK.out, okM_ln]; rw [show okJ (some p) none = true from rfl, Bool.and_true]
            · exact HBW.out.trans ((HVW.out.mono (Nat.le_of_lt (Nat.lt_of_succ_lt HOW.out.lt))).trans HB2.out)
            · have h1 := HN.out
              have h2 := oneJ_le p.key (some p) none
              show _ ≤ _
              simp only [List.length_append, List.length_cons, List.length_nil] at h1 ⊢
              omega
          case measure => simp [lenV]
        case step =>
          rintro listed a' w' ⟨f0, f1, f2, f3, f4, f5, f6, f7, f8, rfl, rfl, c4, c5, wA, wB⟩ i hi
          rw [mem_ready] at hi
          obtain ⟨hu, o, ho, ha⟩ := hi
          have hi8 : i < 9 := (Array.getElem?_eq_some_iff.1 ho).1
          rcases (by omega : i = 0 ∨ i = 1 ∨ i = 2 ∨ i = 3 ∨ i = 4 ∨ i = 5 ∨ i = 6 ∨ i = 7 ∨ i = 8) with rfl | rfl | rfl | rfl | rfl | rfl | rfl | rfl | rfl
          · have ho' := ho
            simp at hu ho
            subst hu ho
            clear ha
            refine .inl ?_
            unfold sidelUpd Oper.wp
            go_simp
            exact ⟨true, f1, f2, f3, f4, f5, f6, f7, f8, rfl, rfl, c4, c5, wA, wB⟩
          · have ho' := ho
            simp at hu ho
            subst hu ho
            clear ha
            refine .inl ?_
            unfold sidelUpd Oper.wp
            go_simp
            exact ⟨f0, true, f2, f3, f4, f5, f6, f7, f8, rfl, rfl, c4, c5, wA, wB⟩
          · have ho' := ho
            simp at hu ho
            subst hu ho
            clear ha
            refine .inl ?_
            unfold sidelUpd Oper.wp
            go_simp
            exact ⟨f0, f1, true, f3, f4, f5, f6, f7, f8, rfl, rfl, c4, c5, wA, wB⟩
          · have ho' := ho
            simp at hu ho
            subst hu ho
            simp [Region.binds] at ha
            obtain rfl : f2 = true := by simp_all
            clear ha
            refine .inl ?_
            unfold sidelUpd Oper.wp
            go_simp
            exact ⟨f0, f1, true, true, f4, f5, f6, f7, f8, rfl, rfl, c4, c5, wA, wB⟩
          · have ho' := ho
            simp at hu ho
            subst hu ho
            simp [Region.binds] at ha
            obtain rfl : f3 = true := by simp_all
            clear ha
            have e5 : f5 = false := Bool.eq_false_iff.2 fun h => (Bool.false_ne_true (c4.out h))
            subst e5
            have e8 : f8 = false := Bool.eq_false_iff.2 fun h => (Bool.false_ne_true (c5.out h))
            subst e8
            have hB := wA rfl
            unfold sidelUpd
            refine wpOp_do ho' (by rfl) ?_
            refine wp_load_mid 46 (.tmp 57) rfl g1 o1 rfl (editC p) _ (Hp.out.below hB).2 Try.underlying46 rfl size_edit ?_
            simp only [Act.put, List.setIfInBounds_toArray, List.set_cons_succ, List.set_cons_zero]
            exact ⟨f0, f1, f2, true, true, false, f6, f7, false, rfl, rfl, Lib.hid (by simp), c5, wA, wB⟩
          · have ho' := ho
            simp at hu ho
            subst hu ho
            simp [Region.binds] at ha
            obtain rfl : f1 = true := by simp_all
            obtain rfl : f4 = true := by simp_all
            clear ha
            have e8 : f8 = false := Bool.eq_false_iff.2 fun h => (Bool.false_ne_true (c5.out h))
            subst e8
            have hB := wA rfl
            refine .inl ?_
            unfold sidelUpd Oper.wp
            go_simp
            refine (editKey_any p _).mono ?_
            rintro e w1 ⟨rfl, hb⟩
            exact ⟨f0, true, f2, f3, true, true, f6, f7, false, rfl, rfl, Lib.hid (by simp), Lib.hid (by simp), fun _ => hB.trans (hb.mono hB.size), by simp⟩
          · have ho' := ho
            simp at hu ho
            subst hu ho
            clear ha
            refine .inl ?_
            unfold sidelUpd Oper.wp
            go_simp
            exact ⟨f0, f1, f2, f3, f4, f5, true, f7, f8, rfl, rfl, c4, c5, wA, wB⟩
          · have ho' := ho
            simp at hu ho
            subst hu ho
            simp [Region.binds] at ha
            obtain rfl : f6 = true := by simp_all
            clear ha
            refine .inl ?_
            unfold sidelUpd Oper.wp
            go_simp
            exact ⟨f0, f1, f2, f3, f4, f5, true, true, f8, rfl, rfl, c4, c5, wA, wB⟩
          · have ho' := ho
            simp at hu ho
            subst hu ho
            simp [Region.binds] at ha
            obtain rfl : f0 = true := by simp_all
            obtain rfl : f5 = true := by simp_all
            obtain rfl : f7 = true := by simp_all
            clear ha
            obtain rfl := c4.out rfl
            have hB := wA rfl
            refine .inl ?_
            unfold sidelUpd Oper.wp
            go_simp
            refine (cj_l p.key w' B out ok (HOV.out.below hB) HLE.out p g1 o1 (Hp.out.below hB)).mono ?_
            rintro e w1 ⟨rfl, hj, hb⟩
            exact ⟨true, f1, f2, f3, true, true, f6, true, true, rfl, rfl, Lib.hid (by simp), Lib.hid (by simp), by simp, fun _ => ⟨hj, (hB.mono (Nat.le_of_lt (Nat.lt_of_succ_lt HOV.out.lt))).trans hb⟩⟩
      | cons q m =>
        obtain ⟨g1, o1, rfl, hp0⟩ := HL.out.editAt (k := 0) (by simp)
        have hpW : EditAt wr g1 o1 p := by have := hp0.below HW0.out; simpa using this
        have Hwp := Lib.hid hpW
        clear hp0 hpW
        obtain ⟨g2, o2, rfl, hq0⟩ := HM2.out.editAt (k := 0) (by simp)
        have hqW : EditAt wr g2 o2 q := by have := hq0.below HW0.out; simpa using this
        have Hwq := Lib.hid hqW
        clear hq0 hqW
        have HPK : Hid (∀ x : Later wr, Calls Try.prog 39 #[.agg (editC p).toArray] x.at_ fun e w'' => e = .returned (.agg #[.string p.key.group, .string p.key.artifact, .string p.key.type, .string p.key.classifier]) ∧ ∃ y : Later wr, w'' = y.at_) := fun x => Later.call (editKey_any p x.at_)
        have HQK : Hid (∀ x : Later wr, Calls Try.prog 39 #[.agg (editC q).toArray] x.at_ fun e w'' => e = .returned (.agg #[.string q.key.group, .string q.key.artifact, .string q.key.type, .string q.key.classifier]) ∧ ∃ y : Later wr, w'' = y.at_) := fun x => Later.call (editKey_any q x.at_)
        have HR1 : Hid (∀ w', (∃ x : Later wr, w' = x.at_) → w'.rangeAt g1 o1 (editC p)) := by rintro w' ⟨x, rfl⟩ j u hu; exact (x.below.cell (by exact Hwp.out.1)).trans (Hwp.out.2 j u hu)
        have HR2 : Hid (∀ w', (∃ x : Later wr, w' = x.at_) → w'.rangeAt g2 o2 (editC q)) := by rintro w' ⟨x, rfl⟩ j u hu; exact (x.below.cell (by exact Hwq.out.1)).trans (Hwq.out.2 j u hu)
        rcases merge_cases p.key q.key with hc | ⟨hc0, hc⟩ | ⟨hc0, hc⟩
        · skip
          have HC := Lib.hid (fun (x : Later wr) => compare_c p.key q.key x _ hc)
          have HCC := Lib.hid hc
          clear hc
          go_wp2_with fail
          refine region_later (by kernel_rfl) (by kernel_rfl) ?_
          iterate 3 go_big_quiet_step (fail)
          go_big_quiet_want
          refine quiet_load_mid 46 (.tmp 19) rfl g1 o1 rfl (editC p) HR1.out Try.underlying46 rfl size_edit ?_
          simp only [Act.put, List.setIfInBounds_toArray, List.set_cons_succ, List.set_cons_zero]
          go_big_quiet_on
          iterate 4 go_big_quiet_step (first | (go_at_call 39; first | with_reducible exact HPK.out _ | with_reducible exact HQK.out _) | (go_at_call 31; exact HC.out _))
          go_big_quiet_want
          refine quiet_load_mid 46 (.tmp 24) rfl g2 o2 rfl (editC q) HR2.out Try.underlying46 rfl size_edit ?_
          simp only [Act.put, List.setIfInBounds_toArray, List.set_cons_succ, List.set_cons_zero]
          go_big_quiet_on
          iterate 3 go_big_quiet_step (first | (go_at_call 39; first | with_reducible exact HPK.out _ | with_reducible exact HQK.out _) | (go_at_call 31; exact HC.out _))
          refine wpQuiet_nil ?_
          rintro _ ⟨nx, rfl⟩
          have HVW : Hid (Below wr.heap.size wr nx.at_) := nx.below
          generalize nx.at_ = V at *
          clear nx
          have HOV : Hid (JoinAt B V out ok) := HOW.out.below HVW.out
          have HLE : Hid (out.length ≤ 1000) := by have h1 := HN.out; have h2 := HLL.out; show _ ≤ _; omega
          have Hp : Hid (EditAt V g1 o1 p) := Hwp.out.below HVW.out
          go_wp2_with fail
          refine wp_region_flags0 (sidelJ p g1 o1 B out ok V _ _ _ _ _ _ _ _ _ _ _ _ _ _ _ _ _ _ _ _ _ _ _ _ _ _ _ _ _ _ _ _ _ _ _ _ _ _ _ _ _ _ _ _ _ _ _ _ _ _ _ _ _ _ _ _ _ _ _ _ _ _ _ _ _ _ _ _ _ _ _ _ _ _ _ _ _ _ _) (by kernel_rfl) 9 rfl (by kernel_rfl) ⟨false, false, false, false, false, false, false, false, false, rfl, rfl, Lib.hid (by simp), Lib.hid (by simp), fun _ => belowN (Below.refl _ _) 1, by simp⟩ ?fin ?step
          case fin =>
            rintro a' w' ⟨f0, f1, f2, f3, f4, f5, f6, f7, f8, hl, rfl, c4, c5, wA, wB⟩
            have hl' : [true, true, true, true, true, true, true, true, true] = [f0, f1, f2, f3, f4, f5, f6, f7, f8] := congrArg Array.toList hl
            simp only [List.cons.injEq, and_true] at hl'
            obtain ⟨rfl, rfl, rfl, rfl, rfl, rfl, rfl, rfl, rfl⟩ := hl'
            unfold sidelUpd
            simp only [cond_true]
            obtain ⟨ho2, hb2⟩ := wB rfl
            have HO2 := Lib.hid ho2
            have HB2 := Lib.hid hb2
            clear ho2 hb2 c4 c5 wA wB
            go_wp2
            go_roundw
            case rel =>
              refine ⟨l, (q :: m), out ++ oneJ p.key (some p) none, ok && okJ (some p) none, (HL.out.cut (k := 1) (by simp)), HM2.out, ?_, ?_, HO2.out, ?_, ?_⟩
              · show _ = _; rw [HE.out, joinE_lt HCC.out, List.append_assoc]
              · show _ = _; rw [HK.out, okM_lt HCC.out]; rw [show okJ (some p) none = true from rfl, Bool.and_true]
              · exact HBW.out.trans ((HVW.out.mono (Nat.le_of_lt (Nat.lt_of_succ_lt HOW.out.lt))).trans HB2.out)
              · have h1 := HN.out
                have h2 := oneJ_le p.key (some p) none
                show _ ≤ _
                simp only [List.length_append, List.length_cons] at h1 ⊢
                omega
            case measure => simp [lenV]
          case step =>
            rintro listed a' w' ⟨f0, f1, f2, f3, f4, f5, f6, f7, f8, rfl, rfl, c4, c5, wA, wB⟩ i hi
            rw [mem_ready] at hi
            obtain ⟨hu, o, ho, ha⟩ := hi
            have hi8 : i < 9 := (Array.getElem?_eq_some_iff.1 ho).1
            rcases (by omega : i = 0 ∨ i = 1 ∨ i = 2 ∨ i = 3 ∨ i = 4 ∨ i = 5 ∨ i = 6 ∨ i = 7 ∨ i = 8) with rfl | rfl | rfl | rfl | rfl | rfl | rfl | rfl | rfl
            · have ho' := ho
              simp at hu ho
              subst hu ho
              clear ha
              refine .inl ?_
              unfold sidelUpd Oper.wp
              go_simp
              exact ⟨true, f1, f2, f3, f4, f5, f6, f7, f8, rfl, rfl, c4, c5, wA, wB⟩
            · have ho' := ho
              simp at hu ho
              subst hu ho
              clear ha
              refine .inl ?_
              unfold sidelUpd Oper.wp
              go_simp
              exact ⟨f0, true, f2, f3, f4, f5, f6, f7, f8, rfl, rfl, c4, c5, wA, wB⟩
            · have ho' := ho
              simp at hu ho
              subst hu ho
              clear ha
              refine .inl ?_
              unfold sidelUpd Oper.wp
              go_simp
              exact ⟨f0, f1, true, f3, f4, f5, f6, f7, f8, rfl, rfl, c4, c5, wA, wB⟩
            · have ho' := ho
              simp at hu ho
              subst hu ho
              simp [Region.binds] at ha
              obtain rfl : f2 = true := by simp_all
              clear ha
              refine .inl ?_
              unfold sidelUpd Oper.wp
              go_simp
              exact ⟨f0, f1, true, true, f4, f5, f6, f7, f8, rfl, rfl, c4, c5, wA, wB⟩
            · have ho' := ho
              simp at hu ho
              subst hu ho
              simp [Region.binds] at ha
              obtain rfl : f3 = true := by simp_all
              clear ha
              have e5 : f5 = false := Bool.eq_false_iff.2 fun h => (Bool.false_ne_true (c4.out h))
              subst e5
              have e8 : f8 = false := Bool.eq_false_iff.2 fun h => (Bool.false_ne_true (c5.out h))
              subst e8
              have hB := wA rfl
              unfold sidelUpd
              refine wpOp_do ho' (by rfl) ?_
              refine wp_load_mid 46 (.tmp 57) rfl g1 o1 rfl (editC p) _ (Hp.out.below hB).2 Try.underlying46 rfl size_edit ?_
              simp only [Act.put, List.setIfInBounds_toArray, List.set_cons_succ, List.set_cons_zero]
              exact ⟨f0, f1, f2, true, true, false, f6, f7, false, rfl, rfl, Lib.hid (by simp), c5, wA, wB⟩
            · have ho' := ho
              simp at hu ho
              subst hu ho
              simp [Region.binds] at ha
              obtain rfl : f1 = true := by simp_all
              obtain rfl : f4 = true := by simp_all
              clear ha
              have e8 : f8 = false := Bool.eq_false_iff.2 fun h => (Bool.false_ne_true (c5.out h))
              subst e8
              have hB := wA rfl
              refine .inl ?_
              unfold sidelUpd Oper.wp
              go_simp
              refine (editKey_any p _).mono ?_
              rintro e w1 ⟨rfl, hb⟩
              exact ⟨f0, true, f2, f3, true, true, f6, f7, false, rfl, rfl, Lib.hid (by simp), Lib.hid (by simp), fun _ => hB.trans (hb.mono hB.size), by simp⟩
            · have ho' := ho
              simp at hu ho
              subst hu ho
              clear ha
              refine .inl ?_
              unfold sidelUpd Oper.wp
              go_simp
              exact ⟨f0, f1, f2, f3, f4, f5, true, f7, f8, rfl, rfl, c4, c5, wA, wB⟩
            · have ho' := ho
              simp at hu ho
              subst hu ho
              simp [Region.binds] at ha
              obtain rfl : f6 = true := by simp_all
              clear ha
              refine .inl ?_
              unfold sidelUpd Oper.wp
              go_simp
              exact ⟨f0, f1, f2, f3, f4, f5, true, true, f8, rfl, rfl, c4, c5, wA, wB⟩
            · have ho' := ho
              simp at hu ho
              subst hu ho
              simp [Region.binds] at ha
              obtain rfl : f0 = true := by simp_all
              obtain rfl : f5 = true := by simp_all
              obtain rfl : f7 = true := by simp_all
              clear ha
              obtain rfl := c4.out rfl
              have hB := wA rfl
              refine .inl ?_
              unfold sidelUpd Oper.wp
              go_simp
              refine (cj_l p.key w' B out ok (HOV.out.below hB) HLE.out p g1 o1 (Hp.out.below hB)).mono ?_
              rintro e w1 ⟨rfl, hj, hb⟩
              exact ⟨true, f1, f2, f3, true, true, f6, true, true, rfl, rfl, Lib.hid (by simp), Lib.hid (by simp), by simp, fun _ => ⟨hj, (hB.mono (Nat.le_of_lt (Nat.lt_of_succ_lt HOV.out.lt))).trans hb⟩⟩
        · skip
          have HN1 : Hid (cmpK p.key q.key ≠ -1) := by show _ ≠ _; rw [hc]; decide
          clear hc0
          have HC := Lib.hid (fun (x : Later wr) => compare_c p.key q.key x _ hc)
          have HCC := Lib.hid hc
          clear hc
          go_wp2_with fail
          refine region_later (by kernel_rfl) (by kernel_rfl) ?_
          iterate 3 go_big_quiet_step (fail)
          go_big_quiet_want
          refine quiet_load_mid 46 (.tmp 19) rfl g1 o1 rfl (editC p) HR1.out Try.underlying46 rfl size_edit ?_
          simp only [Act.put, List.setIfInBounds_toArray, List.set_cons_succ, List.set_cons_zero]
          go_big_quiet_on
          iterate 4 go_big_quiet_step (first | (go_at_call 39; first | with_reducible exact HPK.out _ | with_reducible exact HQK.out _) | (go_at_call 31; exact HC.out _))
          go_big_quiet_want
          refine quiet_load_mid 46 (.tmp 24) rfl g2 o2 rfl (editC q) HR2.out Try.underlying46 rfl size_edit ?_
          simp only [Act.put, List.setIfInBounds_toArray, List.set_cons_succ, List.set_cons_zero]
          go_big_quiet_on
          iterate 3 go_big_quiet_step (first | (go_at_call 39; first | with_reducible exact HPK.out _ | with_reducible exact HQK.out _) | (go_at_call 31; exact HC.out _))
          refine wpQuiet_nil ?_
          rintro _ ⟨nx, rfl⟩
          have HVW : Hid (Below wr.heap.size wr nx.at_) := nx.below
          generalize nx.at_ = V at *
          clear nx
          have HOV : Hid (JoinAt B V out ok) := HOW.out.below HVW.out
          have HLE : Hid (out.length ≤ 1000) := by have h1 := HN.out; have h2 := HLL.out; show _ ≤ _; omega
          have Hq : Hid (EditAt V g2 o2 q) := Hwq.out.below HVW.out
          go_wp2_with fail
          refine wp_region_flags0 (sidemJ q g2 o2 B out ok V _ _ _ _ _ _ _ _ _ _ _ _ _ _ _ _ _ _ _ _ _ _ _ _ _ _ _ _ _ _ _ _ _ _ _ _ _ _ _ _ _ _ _ _ _ _ _ _ _ _ _ _ _ _ _ _ _ _ _ _ _ _ _ _ _ _ _ _ _ _ _ _ _ _ _ _ _ _ _) (by kernel_rfl) 9 rfl (by kernel_rfl) ⟨false, false, false, false, false, false, false, false, false, rfl, rfl, Lib.hid (by simp), Lib.hid (by simp), fun _ => belowN (Below.refl _ _) 1, by simp⟩ ?fin ?step
          case fin =>
            rintro a' w' ⟨f0, f1, f2, f3, f4, f5, f6, f7, f8, hl, rfl, c4, c5, wA, wB⟩
            have hl' : [true, true, true, true, true, true, true, true, true] = [f0, f1, f2, f3, f4, f5, f6, f7, f8] := congrArg Array.toList hl
            simp only [List.cons.injEq, and_true] at hl'
            obtain ⟨rfl, rfl, rfl, rfl, rfl, rfl, rfl, rfl, rfl⟩ := hl'
            unfold sidemUpd
            simp only [cond_true]
            obtain ⟨ho2, hb2⟩ := wB rfl
            have HO2 := Lib.hid ho2
            have HB2 := Lib.hid hb2
            clear ho2 hb2 c4 c5 wA wB
            go_wp2
            go_roundw
            case rel =>
              refine ⟨(p :: l), m, out ++ oneJ q.key none (some q), ok && okJ none (some q), HL.out, (HM2.out.cut (k := 1) (by simp)), ?_, ?_, HO2.out, ?_, ?_⟩
              · show _ = _; rw [HE.out, joinE_gt HN1.out HCC.out, List.append_assoc]
              · show _ = _; rw [HK.out, okM_gt HN1.out HCC.out]; rw [show okJ none (some q) = true from rfl, Bool.and_true]
              · exact HBW.out.trans ((HVW.out.mono (Nat.le_of_lt (Nat.lt_of_succ_lt HOW.out.lt))).trans HB2.out)
              · have h1 := HN.out
                have h2 := oneJ_le q.key none (some q)
                show _ ≤ _
                simp only [List.length_append, List.length_cons] at h1 ⊢
                omega
            case measure => simp [lenV]
          case step =>
            rintro listed a' w' ⟨f0, f1, f2, f3, f4, f5, f6, f7, f8, rfl, rfl, c4, c5, wA, wB⟩ i hi
            rw [mem_ready] at hi
            obtain ⟨hu, o, ho, ha⟩ := hi
            have hi8 : i < 9 := (Array.getElem?_eq_some_iff.1 ho).1
            rcases (by omega : i = 0 ∨ i = 1 ∨ i = 2 ∨ i = 3 ∨ i = 4 ∨ i = 5 ∨ i = 6 ∨ i = 7 ∨ i = 8) with rfl | rfl | rfl | rfl | rfl | rfl | rfl | rfl | rfl
            · have ho' := ho
              simp at hu ho
              subst hu ho
              clear ha
              refine .inl ?_
              unfold sidemUpd Oper.wp
              go_simp
              exact ⟨true, f1, f2, f3, f4, f5, f6, f7, f8, rfl, rfl, c4, c5, wA, wB⟩
            · have ho' := ho
              simp at hu ho
              subst hu ho
              clear ha
              refine .inl ?_
              unfold sidemUpd Oper.wp
              go_simp
              exact ⟨f0, true, f2, f3, f4, f5, f6, f7, f8, rfl, rfl, c4, c5, wA, wB⟩
            · have ho' := ho
              simp at hu ho
              subst hu ho
              clear ha
              refine .inl ?_
              unfold sidemUpd Oper.wp
              go_simp
              exact ⟨f0, f1, true, f3, f4, f5, f6, f7, f8, rfl, rfl, c4, c5, wA, wB⟩
            · have ho' := ho
              simp at hu ho
              subst hu ho
              simp [Region.binds] at ha
              obtain rfl : f2 = true := by simp_all
              clear ha
              refine .inl ?_
              unfold sidemUpd Oper.wp
              go_simp
              exact ⟨f0, f1, true, true, f4, f5, f6, f7, f8, rfl, rfl, c4, c5, wA, wB⟩
            · have ho' := ho
              simp at hu ho
              subst hu ho
              simp [Region.binds] at ha
              obtain rfl : f3 = true := by simp_all
              clear ha
              have e5 : f5 = false := Bool.eq_false_iff.2 fun h => (Bool.false_ne_true (c4.out h))
              subst e5
              have e8 : f8 = false := Bool.eq_false_iff.2 fun h => (Bool.false_ne_true (c5.out h))
              subst e8
              have hB := wA rfl
              unfold sidemUpd
              refine wpOp_do ho' (by rfl) ?_
              refine wp_load_mid 46 (.tmp 71) rfl g2 o2 rfl (editC q) _ (Hq.out.below hB).2 Try.underlying46 rfl size_edit ?_
              simp only [Act.put, List.setIfInBounds_toArray, List.set_cons_succ, List.set_cons_zero]
              exact ⟨f0, f1, f2, true, true, false, f6, f7, false, rfl, rfl, Lib.hid (by simp), c5, wA, wB⟩
            · have ho' := ho
              simp at hu ho
              subst hu ho
              simp [Region.binds] at ha
              obtain rfl : f1 = true := by simp_all
              obtain rfl : f4 = true := by simp_all
              clear ha
              have e8 : f8 = false := Bool.eq_false_iff.2 fun h => (Bool.false_ne_true (c5.out h))
              subst e8
              have hB := wA rfl
              refine .inl ?_
              unfold sidemUpd Oper.wp
              go_simp
              refine (editKey_any q _).mono ?_
              rintro e w1 ⟨rfl, hb⟩
              exact ⟨f0, true, f2, f3, true, true, f6, f7, false, rfl, rfl, Lib.hid (by simp), Lib.hid (by simp), fun _ => hB.trans (hb.mono hB.size), by simp⟩
            · have ho' := ho
              simp at hu ho
              subst hu ho
              clear ha
              refine .inl ?_
              unfold sidemUpd Oper.wp
              go_simp
              exact ⟨f0, f1, f2, f3, f4, f5, true, f7, f8, rfl, rfl, c4, c5, wA, wB⟩
            · have ho' := ho
              simp at hu ho
              subst hu ho
              simp [Region.binds] at ha
              obtain rfl : f6 = true := by simp_all
              clear ha
              refine .inl ?_
              unfold sidemUpd Oper.wp
              go_simp
              exact ⟨f0, f1, f2, f3, f4, f5, true, true, f8, rfl, rfl, c4, c5, wA, wB⟩
            · have ho' := ho
              simp at hu ho
              subst hu ho
              simp [Region.binds] at ha
              obtain rfl : f0 = true := by simp_all
              obtain rfl : f5 = true := by simp_all
              obtain rfl : f7 = true := by simp_all
              clear ha
              obtain rfl := c4.out rfl
              have hB := wA rfl
              refine .inl ?_
              unfold sidemUpd Oper.wp
              go_simp
              refine (cj_m q.key w' B out ok (HOV.out.below hB) HLE.out q g2 o2 (Hq.out.below hB)).mono ?_
              rintro e w1 ⟨rfl, hj, hb⟩
              exact ⟨true, f1, f2, f3, true, true, f6, true, true, rfl, rfl, Lib.hid (by simp), Lib.hid (by simp), by simp, fun _ => ⟨hj, (hB.mono (Nat.le_of_lt (Nat.lt_of_succ_lt HOV.out.lt))).trans hb⟩⟩
        · skip
          have HN1 : Hid (cmpK p.key q.key ≠ -1) := by show _ ≠ _; rw [hc]; decide
          have HN2 : Hid (cmpK p.key q.key ≠ 1) := by show _ ≠ _; rw [hc]; decide
          clear hc0
          have HC := Lib.hid (fun (x : Later wr) => compare_c p.key q.key x _ hc)
          have HCC := Lib.hid hc
          clear hc
          go_wp2_with fail
          refine region_later (by kernel_rfl) (by kernel_rfl) ?_
          iterate 3 go_big_quiet_step (fail)
          go_big_quiet_want
          refine quiet_load_mid 46 (.tmp 19) rfl g1 o1 rfl (editC p) HR1.out Try.underlying46 rfl size_edit ?_
          simp only [Act.put, List.setIfInBounds_toArray, List.set_cons_succ, List.set_cons_zero]
          go_big_quiet_on
          iterate 4 go_big_quiet_step (first | (go_at_call 39; first | with_reducible exact HPK.out _ | with_reducible exact HQK.out _) | (go_at_call 31; exact HC.out _))
          go_big_quiet_want
          refine quiet_load_mid 46 (.tmp 24) rfl g2 o2 rfl (editC q) HR2.out Try.underlying46 rfl size_edit ?_
          simp only [Act.put, List.setIfInBounds_toArray, List.set_cons_succ, List.set_cons_zero]
          go_big_quiet_on
          iterate 3 go_big_quiet_step (first | (go_at_call 39; first | with_reducible exact HPK.out _ | with_reducible exact HQK.out _) | (go_at_call 31; exact HC.out _))
          refine wpQuiet_nil ?_
          rintro _ ⟨nx, rfl⟩
          have HVW : Hid (Below wr.heap.size wr nx.at_) := nx.below
          generalize nx.at_ = V at *
          clear nx
          have HOV : Hid (JoinAt B V out ok) := HOW.out.below HVW.out
          have HLE : Hid (out.length ≤ 1000) := by have h1 := HN.out; have h2 := HLL.out; show _ ≤ _; omega
          have Hp : Hid (EditAt V g1 o1 p) := Hwp.out.below HVW.out
          have Hq : Hid (EditAt V g2 o2 q) := Hwq.out.below HVW.out
          go_wp2_with fail
          refine wp_region_flags0 (sidebJ p q g1 o1 g2 o2 B out ok V _ _ _ _ _ _ _ _ _ _ _ _ _ _ _ _ _ _ _ _ _ _ _ _ _ _ _ _ _ _ _ _ _ _ _ _ _ _ _ _ _ _ _ _ _ _ _ _ _ _ _ _ _ _ _ _ _ _ _ _ _ _ _ _ _ _ _ _ _ _ _ _ _ _ _ _ _ _ _) (by kernel_rfl) 11 rfl (by kernel_rfl) ⟨false, false, false, false, false, false, false, false, false, false, false, rfl, rfl, Lib.hid (by simp), Lib.hid (by simp), fun _ => belowN (Below.refl _ _) 1, by simp⟩ ?fin ?step
          case fin =>
            rintro a' w' ⟨f0, f1, f2, f3, f4, f5, f6, f7, f8, f9, f10, hl, rfl, c4, c5, wA, wB⟩
            have hl' : [true, true, true, true, true, true, true, true, true, true, true] = [f0, f1, f2, f3, f4, f5, f6, f7, f8, f9, f10] := congrArg Array.toList hl
            simp only [List.cons.injEq, and_true] at hl'
            obtain ⟨rfl, rfl, rfl, rfl, rfl, rfl, rfl, rfl, rfl, rfl, rfl⟩ := hl'
            unfold sidebUpd
            simp only [cond_true]
            obtain ⟨ho2, hb2⟩ := wB rfl
            have HO2 := Lib.hid ho2
            have HB2 := Lib.hid hb2
            clear ho2 hb2 c4 c5 wA wB
            go_wp2_with fail
            go_quiet (fail)
            go_wp2
            go_roundw
            case rel =>
              refine ⟨l, m, out ++ oneJ p.key (some p) (some q), ok && okJ (some p) (some q), (HL.out.cut (k := 1) (by simp)), (HM2.out.cut (k := 1) (by simp)), ?_, ?_, (HO2.out.below (belowN (Below.refl _ _) _)), ?_, ?_⟩
              · show _ = _; rw [HE.out, joinE_eq HN1.out HN2.out, List.append_assoc]
              · show _ = _; rw [HK.out, okM_eq HN1.out HN2.out]; rw [Bool.and_assoc]
              · exact HBW.out.trans ((HVW.out.mono (Nat.le_of_lt (Nat.lt_of_succ_lt HOW.out.lt))).trans (belowN HB2.out _))
              · have h1 := HN.out
                have h2 := oneJ_le p.key (some p) (some q)
                show _ ≤ _
                simp only [List.length_append, List.length_cons] at h1 ⊢
                omega
            case measure => simp [lenV]; omega
          case step =>
            rintro listed a' w' ⟨f0, f1, f2, f3, f4, f5, f6, f7, f8, f9, f10, rfl, rfl, c4, c5, wA, wB⟩ i hi
            rw [mem_ready] at hi
            obtain ⟨hu, o, ho, ha⟩ := hi
            have hi8 : i < 11 := (Array.getElem?_eq_some_iff.1 ho).1
            rcases (by omega : i = 0 ∨ i = 1 ∨ i = 2 ∨ i = 3 ∨ i = 4 ∨ i = 5 ∨ i = 6 ∨ i = 7 ∨ i = 8 ∨ i = 9 ∨ i = 10) with rfl | rfl | rfl | rfl | rfl | rfl | rfl | rfl | rfl | rfl | rfl
            · have ho' := ho
              simp at hu ho
              subst hu ho
              clear ha
              refine .inl ?_
              unfold sidebUpd Oper.wp
              go_simp
              exact ⟨true, f1, f2, f3, f4, f5, f6, f7, f8, f9, f10, rfl, rfl, c4, c5, wA, wB⟩
            · have ho' := ho
              simp at hu ho
              subst hu ho
              clear ha
              refine .inl ?_
              unfold sidebUpd Oper.wp
              go_simp
              exact ⟨f0, true, f2, f3, f4, f5, f6, f7, f8, f9, f10, rfl, rfl, c4, c5, wA, wB⟩
            · have ho' := ho
              simp at hu ho
              subst hu ho
              clear ha
              refine .inl ?_
              unfold sidebUpd Oper.wp
              go_simp
              exact ⟨f0, f1, true, f3, f4, f5, f6, f7, f8, f9, f10, rfl, rfl, c4, c5, wA, wB⟩
            · have ho' := ho
              simp at hu ho
              subst hu ho
              simp [Region.binds] at ha
              obtain rfl : f2 = true := by simp_all
              clear ha
              refine .inl ?_
              unfold sidebUpd Oper.wp
              go_simp
              exact ⟨f0, f1, true, true, f4, f5, f6, f7, f8, f9, f10, rfl, rfl, c4, c5, wA, wB⟩
            · have ho' := ho
              simp at hu ho
              subst hu ho
              simp [Region.binds] at ha
              obtain rfl : f3 = true := by simp_all
              clear ha
              have e5 : f5 = false := Bool.eq_false_iff.2 fun h => (Bool.false_ne_true (c4.out h))
              subst e5
              have e10 : f10 = false := Bool.eq_false_iff.2 fun h => (Bool.false_ne_true (c5.out h))
              subst e10
              have hB := wA rfl
              unfold sidebUpd
              refine wpOp_do ho' (by rfl) ?_
              refine wp_load_mid 46 (.tmp 39) rfl g1 o1 rfl (editC p) _ (Hp.out.below hB).2 Try.underlying46 rfl size_edit ?_
              simp only [Act.put, List.setIfInBounds_toArray, List.set_cons_succ, List.set_cons_zero]
              exact ⟨f0, f1, f2, true, true, false, f6, f7, f8, f9, false, rfl, rfl, Lib.hid (by simp), c5, wA, wB⟩
            · have ho' := ho
              simp at hu ho
              subst hu ho
              simp [Region.binds] at ha
              obtain rfl : f1 = true := by simp_all
              obtain rfl : f4 = true := by simp_all
              clear ha
              have e10 : f10 = false := Bool.eq_false_iff.2 fun h => (Bool.false_ne_true (c5.out h))
              subst e10
              have hB := wA rfl
              refine .inl ?_
              unfold sidebUpd Oper.wp
              go_simp
              refine (editKey_any p _).mono ?_
              rintro e w1 ⟨rfl, hb⟩
              exact ⟨f0, true, f2, f3, true, true, f6, f7, f8, f9, false, rfl, rfl, Lib.hid (by simp), Lib.hid (by simp), fun _ => hB.trans (hb.mono hB.size), by simp⟩
            · have ho' := ho
              simp at hu ho
              subst hu ho
              clear ha
              refine .inl ?_
              unfold sidebUpd Oper.wp
              go_simp
              exact ⟨f0, f1, f2, f3, f4, f5, true, f7, f8, f9, f10, rfl, rfl, c4, c5, wA, wB⟩
            · have ho' := ho
              simp at hu ho
              subst hu ho
              simp [Region.binds] at ha
              obtain rfl : f6 = true := by simp_all
              clear ha
              refine .inl ?_
              unfold sidebUpd Oper.wp
              go_simp
              exact ⟨f0, f1, f2, f3, f4, f5, true, true, f8, f9, f10, rfl, rfl, c4, c5, wA, wB⟩
            · have ho' := ho
              simp at hu ho
              subst hu ho
              clear ha
              refine .inl ?_
              unfold sidebUpd Oper.wp
              go_simp
              exact ⟨f0, f1, f2, f3, f4, f5, f6, f7, true, f9, f10, rfl, rfl, c4, c5, wA, wB⟩
            · have ho' := ho
              simp at hu ho
              subst hu ho
              simp [Region.binds] at ha
              obtain rfl : f8 = true := by simp_all
              clear ha
              refine .inl ?_
              unfold sidebUpd Oper.wp
              go_simp
              exact ⟨f0, f1, f2, f3, f4, f5, f6, f7, true, true, f10, rfl, rfl, c4, c5, wA, wB⟩
            · have ho' := ho
              simp at hu ho
              subst hu ho
              simp [Region.binds] at ha
              obtain rfl : f0 = true := by simp_all
              obtain rfl : f5 = true := by simp_all
              obtain rfl : f7 = true := by simp_all
              obtain rfl : f9 = true := by simp_all
              clear ha
              obtain rfl := c4.out rfl
              have hB := wA rfl
              refine .inl ?_
              unfold sidebUpd Oper.wp
              go_simp
              refine (cj_b p.key w' B out ok (HOV.out.below hB) HLE.out p g1 o1 (Hp.out.below hB) q g2 o2 (Hq.out.below hB)).mono ?_
              rintro e w1 ⟨rfl, hj, hb⟩
              exact ⟨true, f1, f2, f3, true, true, f6, true, f8, true, true, rfl, rfl, Lib.hid (by simp), Lib.hid (by simp), by simp, fun _ => ⟨hj, (hB.mono (Nat.le_of_lt (Nat.lt_of_succ_lt HOV.out.lt))).trans hb⟩⟩

end Go.Proofs.Ytmcjpmogjmnfpaa
