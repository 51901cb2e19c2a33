/- The document's reader of projects: Read; the conditions stand in the theorem. -/
import Derived.Test.YtbbbfjcikhpmbaaGreatJA22
import Derived.Test.YtbbbfjcikhpmbaaGreatJA17

namespace Go.Proofs.YtbbbfjcikhpmbaaGreat
open Go Go.RowKit

theorem OneP.gen {X : Nat → Prop} {o : Option Tr} {v : Value} {w : World} (h : OneP X o v w) : ∃ (q : Bool) (n0 x0 : S) (b1 b3 : Option Addr) (l1 b2 l3 b4 : Nat), v = .tuple #[.agg #[.string n0, .slice b1 l1 b2, .slice b3 l3 b4, .string x0], .bool q] ∧ (q = true → ∃ k, o = some k ∧ n0 = bs k.name ∧ x0 = bs k.text ∧ l1 = k.attrs.length ∧ l3 = k.kids.length ∧ NodeX X w k (.slice b1 l1 b2) (.slice b3 l3 b4)) ∧ (q = false → o = none) := by
 cases o with
 | none =>
  have h : v = _ := h
  exact ⟨false, ⟨#[]⟩, ⟨#[]⟩, none, none, 0, 0, 0, 0, h, (fun e => by cases e), fun _ => rfl⟩
 | some k =>
  obtain ⟨av, kv, rfl, hn⟩ := h
  obtain ⟨a1, a2, a3, a4, rfl, rfl, -, -⟩ := hn.shape
  exact ⟨true, bs k.name, bs k.text, a1, a3, _, a2, _, a4, rfl, (fun _ => ⟨k, rfl, rfl, rfl, rfl, rfl, hn⟩), fun e => by cases e⟩
def dupE (l : List Tr) (nm : Bs) : Option Er := if l.any (fun x => decide (x.name = nm)) then some (20, two (sl (sl bProject bProperties) nm)) else none
theorem dupE_nz (l : List Tr) (nm : Bs) : Nz (dupE l nm) := Nz.ite (.some (by show (20 : Int) ≠ 0; decide)) .none
theorem dup_yes {s : St} {l : List Tr} {k : Tr} {nm : Bs} (h : k.name = nm) : stp (stp s (dupE l nm)) (some (20, two (sl (sl bProject bProperties) nm))) = stp s (dupE (l ++ [k]) nm) := by
 rw [stp_or (dupE_nz _ _)]
 congr 1
 unfold dupE
 rw [List.any_append, List.any_cons, decide_eq_true h]
 simp only [List.any_nil, Bool.or_false, Bool.or_true, if_true]
 split <;> rfl
theorem dup_no {l : List Tr} {k : Tr} {nm : Bs} (h : k.name ≠ nm) : dupE (l ++ [k]) nm = dupE l nm := by
 unfold dupE
 rw [List.any_append, List.any_cons, decide_eq_false h]
 simp
/-- A round of the properties: the frame, the row so far, the element's box. -/
structure PrA (R : Nat) (s : St) (w : World) (bn : Nat) (NC : List Value) (bz : Nat) (ZC : List Value) (bd : Nat) (DC : List Value) (wq : World) (pv : Value) (ps : List Prp) (kb : Nat) (KB : List Value) (wx : World) : Prop where
 f : Frm3 R s w bn NC bz ZC bd DC wx
 row : Owns wq.heap.size 55 2 prpC wx pv ps
 kq : KeptX (fun j => j = R ∨ j = bd) wq wx
 k : Box wx kb KB
 ne : kb ≠ R ∧ kb ≠ bd ∧ R < wq.heap.size ∧ bd < wq.heap.size ∧ w.heap.size ≤ wq.heap.size ∧ bn < wq.heap.size ∧ bz < wq.heap.size
theorem PrA.call {R : Nat} {s s' : St} {w wq wx wy : World} {bn bz bd kb : Nat} {NC ZC DC KB : List Value} {pv : Value} {ps : List Prp} (h : PrA R s w bn NC bz ZC bd DC wq pv ps kb KB wx) (hr : Box wy R [.int .i64 s'.1, .string s'.2]) (hg : wx.grownBy wy (some R)) : PrA R s' w bn NC bz ZC bd DC wq pv ps kb KB wy :=
 ⟨h.f.call hr hg, h.row.keptR hg h.ne.2.2.1, h.kq.then_ hg (fun g e => by cases e; exact .inl (.inl rfl)), h.k.gr hg h.ne.1, h.ne⟩
theorem PrA.later {R : Nat} {s : St} {w wq wx wy : World} {bn bz bd kb : Nat} {NC ZC DC KB : List Value} {pv : Value} {ps : List Prp} (h : PrA R s w bn NC bz ZC bd DC wq pv ps kb KB wx) (hb : Below wx.heap.size wx wy) : PrA R s w bn NC bz ZC bd DC wq pv ps kb KB wy :=
 ⟨h.f.below hb, h.row.below hb, h.kq.trans (KeptX.below hb), h.k.below hb h.k.lt, h.ne⟩
structure PrB (R : Nat) (s : St) (w : World) (bn : Nat) (NC : List Value) (bz : Nat) (ZC : List Value) (bd : Nat) (DC : List Value) (wq : World) (pv : Value) (ps : List Prp) (wx : World) : Prop where
 f : Frm3 R s w bn NC bz ZC bd DC wx
 row : Owns wq.heap.size 55 2 prpC wx pv ps
 kq : KeptX (fun j => j = R ∨ j = bd) wq wx
theorem PrA.grow {R : Nat} {s : St} {w wq wx wy : World} {bn bz bd kb : Nat} {NC ZC DC KB : List Value} {pv pv' : Value} {ps ps' : List Prp} (h : PrA R s w bn NC bz ZC bd DC wq pv ps kb KB wx) (hown : Owns wq.heap.size 55 2 prpC wy pv' ps') (hg : wx.grownBy wy pv.ownBlock) : PrB R s w bn NC bz ZC bd DC wq pv' ps' wy := by
 have hlt : ∀ g, pv.ownBlock = some g → wq.heap.size ≤ g := fun g e => (h.row.lt g e).1
 have hne := h.ne
 exact ⟨h.f.row hg (fun g e => by have := hlt g e; exact ⟨by omega, by omega, by omega, by omega, by omega⟩), hown, h.kq.then_ hg (fun g e => .inr (hlt g e))⟩
theorem PrB.put {R : Nat} {s : St} {w wq wx : World} {bn bz bd : Nat} {NC ZC DC : List Value} {pv : Value} {ps : List Prp} (h : PrB R s w bn NC bz ZC bd DC wq pv ps wx) (hd : bd < wq.heap.size) (j : Nat) (v : Value) : PrB R s w bn NC bz ZC bd (DC.set j v) wq pv ps (wx.setCell ⟨bd, j, none⟩ v) :=
 ⟨h.f.set j v, h.row.keptR (setCell_grown _ _ _ _) hd, h.kq.then_ (setCell_grown _ _ _ _) (fun g e => by cases e; exact .inl (.inr rfl))⟩
/-- A store of all of a block's cells, as a step of a region that draws its order. -/
theorem wp_store_box {P : Program} {op : Oper} {a : Act} {w : World} {K : Act → World → Prop} {Q : Exit → Act → World → Prop} (ty : TypeId) (x y : Operand) (ho : op.op = .store ty x y)
    (b : Nat) (old cs : List Value) (hx : a.eval x = .pointer (some ⟨b, 0, none⟩)) (hy : a.eval y = .agg cs.toArray) (hb : Box w b old) (hl : old.length = cs.length)
    (hi : (P.info? ty).map (·.size) = some cs.length) (h1 : ∀ v ∈ cs, v.oneCell' = true) (h : ∀ W', Box W' b cs → w.grownBy W' (some b) → K (a.put op.dst undef) W') : op.wp P a w K Q := by
 have hth : w.there b 0 cs.toArray.size := fun j hj => by
  have hj' : j < old.length := by rw [hl]; simpa using hj
  refine ⟨?_, by simpa using hb.free (0 + j)⟩
  rw [Nat.zero_add, hb.cell j old[j] (by simp [hj'])]; rfl
 exact wp_store_mid ty x y ho b 0 cs.toArray hx hy hth (by simpa using hi) (all_oneCell_toArray h1) (h _ (hb.setCells hl) (setCells_grown b _ 0 w))
theorem propsEgo_nz (w : Bs) : ∀ (l d : List Tr), Nz (propsEgo w l d)
 | [], _ => .none
 | t :: r, d => (Nz.ite (.some (by show (20 : Int) ≠ 0; decide)) .none).or ((textE_nz _ _ _).or (propsEgo_nz w r _))
theorem depsE_nz (m : Bool) (t : Tr) (w : Bs) : Nz (depsE m t w) := by
 unfold depsE
 refine (manyE_nz _ _ _).or ?_
 cases oneV t bDependencies with
 | none => exact .none
 | some f => exact (big_nz _ _).or (eachE_nz (depE_nz m) _ _ _)
theorem parentE_nz (t : Tr) (w : Bs) : Nz (parentE t w) := by
 unfold parentE
 refine (manyE_nz _ _ _).or ?_
 cases oneV t bParent with
 | none => exact .none
 | some f => exact (wordE_nz _ _ _ _ _).or ((wordE_nz _ _ _ _ _).or (wordE_nz _ _ _ _ _))
theorem propsE_nz (t : Tr) (w : Bs) : Nz (propsE t w) := by
 unfold propsE
 refine (manyE_nz _ _ _).or ?_
 cases oneV t bProperties with
 | none => exact .none
 | some f => exact (Nz.ite (.some (by show (2 : Int) ≠ 0; decide)) .none).or (propsEgo_nz _ _ _)
theorem managedE_nz (t : Tr) (w : Bs) : Nz (managedE t w) := by
 unfold managedE
 refine (manyE_nz _ _ _).or ?_
 cases oneV t bManagement with
 | none => exact .none
 | some f => exact depsE_nz _ _ _
theorem nameE_nz (t : Tr) : Nz (nameE t) := Nz.ite .none (.some (by show (20 : Int) ≠ 0; decide))
theorem readE_nz (t : Tr) : Nz (readE t) := (nameE_nz t).or ((parentE_nz _ _).or ((wordE_nz _ _ _ _ _).or ((wordE_nz _ _ _ _ _).or ((wordE_nz _ _ _ _ _).or ((wordE_nz _ _ _ _ _).or ((propsE_nz _ _).or ((managedE_nz _ _).or (depsE_nz _ _ _))))))))
def zeUpd (RB : Nat) (b : Int) (m : S) (x0 x1 x2 y3 y4 x5 x6 x7 x8 x9 x10 x11 x12 x13 x14 x15 x16 x17 x18 x19 x20 x21 x22 x23 x24 x25 x26 x27 x28 x29 x30 x31 x32 x33 x34 x35 x36 x37 x38 x39 x40 x41 x42 x43 x44 x45 x46 x47 x48 x49 x50 x51 x52 x53 x54 x55 x56 x57 x58 x59 x60 x61 x62 x63 x64 x65 x66 x67 x68 x69 x70 x71 x72 x73 x74 x75 x76 x77 x78 x79 x80 x81 x82 x83 x84 x85 x86 x87 x88 x89 x90 x91 x92 x93 x94 x95 x96 x97 x98 x99 x100 x101 x102 x103 x104 x105 x106 x107 x108 x109 x110 x111 x112 x113 x114 x115 x116 x117 x118 x119 x120 x121 x122 x123 x124 x125 x126 x127 x128 x129 x130 x131 x132 x133 x134 x135 x136 x137 x138 x139 x140 x141 y142 y143 y144 y145 y146 y147 y148 y149 y150 x151 : Value) (f0 f1 f2 f3 f4 f5 f6 f7 f8 _f9 f10 f11 : Bool)  : Act :=
 ⟨#[x0, x1, x2, cond f10 (.int .i64 b) y3, cond f11 (.string m) y4, x5, x6, x7, x8, x9, x10, x11, x12, x13, x14, x15, x16, x17, x18, x19, x20, x21, x22, x23, x24, x25, x26, x27, x28, x29, x30, x31, x32, x33, x34, x35, x36, x37, x38, x39, x40, x41, x42, x43, x44, x45, x46, x47, x48, x49, x50, x51, x52, x53, x54, x55, x56, x57, x58, x59, x60, x61, x62, x63, x64, x65, x66, x67, x68, x69, x70, x71, x72, x73, x74, x75, x76, x77, x78, x79, x80, x81, x82, x83, x84, x85, x86, x87, x88, x89, x90, x91, x92, x93, x94, x95, x96, x97, x98, x99, x100, x101, x102, x103, x104, x105, x106, x107, x108, x109, x110, x111, x112, x113, x114, x115, x116, x117, x118, x119, x120, x121, x122, x123, x124, x125, x126, x127, x128, x129, x130, x131, x132, x133, x134, x135, x136, x137, x138, x139, x140, x141, cond f0 (.agg #[.bool false, .string ⟨#[]⟩, .string ⟨#[]⟩, .string ⟨#[]⟩, .string ⟨#[]⟩, .string ⟨#[]⟩, .string ⟨#[]⟩, .string ⟨#[]⟩, .slice none 0 0, .slice none 0 0, .slice none 0 0]) y142, cond f1 (.pointer (some ⟨RB, 0, none⟩)) y143, cond f2 (.pointer (some ⟨RB, 0, none⟩)) y144, cond f3 (.pointer (some ⟨RB, 0, none⟩)) y145, cond f4 (.int .i64 b) y146, cond f5 (.pointer (some ⟨RB, 0, none⟩)) y147, cond f6 (.pointer (some ⟨RB, 0, none⟩)) y148, cond f7 (.pointer (some ⟨RB, 1, none⟩)) y149, cond f8 (.string m) y150, x151], []⟩
inductive zeJ (RB : Nat) (b : Int) (m : S) (w V : World) (x0 x1 x2 y3 y4 x5 x6 x7 x8 x9 x10 x11 x12 x13 x14 x15 x16 x17 x18 x19 x20 x21 x22 x23 x24 x25 x26 x27 x28 x29 x30 x31 x32 x33 x34 x35 x36 x37 x38 x39 x40 x41 x42 x43 x44 x45 x46 x47 x48 x49 x50 x51 x52 x53 x54 x55 x56 x57 x58 x59 x60 x61 x62 x63 x64 x65 x66 x67 x68 x69 x70 x71 x72 x73 x74 x75 x76 x77 x78 x79 x80 x81 x82 x83 x84 x85 x86 x87 x88 x89 x90 x91 x92 x93 x94 x95 x96 x97 x98 x99 x100 x101 x102 x103 x104 x105 x106 x107 x108 x109 x110 x111 x112 x113 x114 x115 x116 x117 x118 x119 x120 x121 x122 x123 x124 x125 x126 x127 x128 x129 x130 x131 x132 x133 x134 x135 x136 x137 x138 x139 x140 x141 y142 y143 y144 y145 y146 y147 y148 y149 y150 x151 : Value) : Array Bool → Act → World → Prop where
 | mk (f0 f1 f2 f3 f4 f5 f6 f7 f8 f9 f10 f11 : Bool)  (w' : World) (ch2 : Hid (f2 = true → f1 = true)) (ch3 : Hid (f3 = true → f2 = true)) (ch4 : Hid (f4 = true → f3 = true)) (ch6 : Hid (f6 = true → f5 = true)) (ch7 : Hid (f7 = true → f6 = true)) (ch8 : Hid (f8 = true → f7 = true)) (ch9 : Hid (f9 = true → f0 = true)) (ch10 : Hid (f10 = true → f4 = true)) (ch11 : Hid (f11 = true → f8 = true)) (hB : (f9 = false → Below V.heap.size V w')) (rb : Box w' RB [.int .i64 b, .string m]) (rz : Box w' (w.heap.size + 1) [.bool false, .string ⟨#[]⟩, .string ⟨#[]⟩, .string ⟨#[]⟩, .string ⟨#[]⟩, .string ⟨#[]⟩, .string ⟨#[]⟩, .string ⟨#[]⟩, .slice none 0 0, .slice none 0 0, .slice none 0 0]) (bw : Below w.heap.size w w') : zeJ RB b m w V x0 x1 x2 y3 y4 x5 x6 x7 x8 x9 x10 x11 x12 x13 x14 x15 x16 x17 x18 x19 x20 x21 x22 x23 x24 x25 x26 x27 x28 x29 x30 x31 x32 x33 x34 x35 x36 x37 x38 x39 x40 x41 x42 x43 x44 x45 x46 x47 x48 x49 x50 x51 x52 x53 x54 x55 x56 x57 x58 x59 x60 x61 x62 x63 x64 x65 x66 x67 x68 x69 x70 x71 x72 x73 x74 x75 x76 x77 x78 x79 x80 x81 x82 x83 x84 x85 x86 x87 x88 x89 x90 x91 x92 x93 x94 x95 x96 x97 x98 x99 x100 x101 x102 x103 x104 x105 x106 x107 x108 x109 x110 x111 x112 x113 x114 x115 x116 x117 x118 x119 x120 x121 x122 x123 x124 x125 x126 x127 x128 x129 x130 x131 x132 x133 x134 x135 x136 x137 x138 x139 x140 x141 y142 y143 y144 y145 y146 y147 y148 y149 y150 x151 #[f0, f1, f2, f3, f4, f5, f6, f7, f8, f9, f10, f11] (zeUpd RB b m x0 x1 x2 y3 y4 x5 x6 x7 x8 x9 x10 x11 x12 x13 x14 x15 x16 x17 x18 x19 x20 x21 x22 x23 x24 x25 x26 x27 x28 x29 x30 x31 x32 x33 x34 x35 x36 x37 x38 x39 x40 x41 x42 x43 x44 x45 x46 x47 x48 x49 x50 x51 x52 x53 x54 x55 x56 x57 x58 x59 x60 x61 x62 x63 x64 x65 x66 x67 x68 x69 x70 x71 x72 x73 x74 x75 x76 x77 x78 x79 x80 x81 x82 x83 x84 x85 x86 x87 x88 x89 x90 x91 x92 x93 x94 x95 x96 x97 x98 x99 x100 x101 x102 x103 x104 x105 x106 x107 x108 x109 x110 x111 x112 x113 x114 x115 x116 x117 x118 x119 x120 x121 x122 x123 x124 x125 x126 x127 x128 x129 x130 x131 x132 x133 x134 x135 x136 x137 x138 x139 x140 x141 y142 y143 y144 y145 y146 y147 y148 y149 y150 x151 f0 f1 f2 f3 f4 f5 f6 f7 f8 f9 f10 f11 ) w'
theorem zeJ.at {RB : Nat} {b : Int} {m : S} {w V : World} {x0 x1 x2 y3 y4 x5 x6 x7 x8 x9 x10 x11 x12 x13 x14 x15 x16 x17 x18 x19 x20 x21 x22 x23 x24 x25 x26 x27 x28 x29 x30 x31 x32 x33 x34 x35 x36 x37 x38 x39 x40 x41 x42 x43 x44 x45 x46 x47 x48 x49 x50 x51 x52 x53 x54 x55 x56 x57 x58 x59 x60 x61 x62 x63 x64 x65 x66 x67 x68 x69 x70 x71 x72 x73 x74 x75 x76 x77 x78 x79 x80 x81 x82 x83 x84 x85 x86 x87 x88 x89 x90 x91 x92 x93 x94 x95 x96 x97 x98 x99 x100 x101 x102 x103 x104 x105 x106 x107 x108 x109 x110 x111 x112 x113 x114 x115 x116 x117 x118 x119 x120 x121 x122 x123 x124 x125 x126 x127 x128 x129 x130 x131 x132 x133 x134 x135 x136 x137 x138 x139 x140 x141 y142 y143 y144 y145 y146 y147 y148 y149 y150 x151 : Value} {listed : Array Bool} {atx : Act} {w' : World} (f0 f1 f2 f3 f4 f5 f6 f7 f8 f9 f10 f11 : Bool)  (hl : listed = #[f0, f1, f2, f3, f4, f5, f6, f7, f8, f9, f10, f11]) (ha : atx = zeUpd RB b m x0 x1 x2 y3 y4 x5 x6 x7 x8 x9 x10 x11 x12 x13 x14 x15 x16 x17 x18 x19 x20 x21 x22 x23 x24 x25 x26 x27 x28 x29 x30 x31 x32 x33 x34 x35 x36 x37 x38 x39 x40 x41 x42 x43 x44 x45 x46 x47 x48 x49 x50 x51 x52 x53 x54 x55 x56 x57 x58 x59 x60 x61 x62 x63 x64 x65 x66 x67 x68 x69 x70 x71 x72 x73 x74 x75 x76 x77 x78 x79 x80 x81 x82 x83 x84 x85 x86 x87 x88 x89 x90 x91 x92 x93 x94 x95 x96 x97 x98 x99 x100 x101 x102 x103 x104 x105 x106 x107 x108 x109 x110 x111 x112 x113 x114 x115 x116 x117 x118 x119 x120 x121 x122 x123 x124 x125 x126 x127 x128 x129 x130 x131 x132 x133 x134 x135 x136 x137 x138 x139 x140 x141 y142 y143 y144 y145 y146 y147 y148 y149 y150 x151 f0 f1 f2 f3 f4 f5 f6 f7 f8 f9 f10 f11 ) (ch2 : Hid (f2 = true → f1 = true)) (ch3 : Hid (f3 = true → f2 = true)) (ch4 : Hid (f4 = true → f3 = true)) (ch6 : Hid (f6 = true → f5 = true)) (ch7 : Hid (f7 = true → f6 = true)) (ch8 : Hid (f8 = true → f7 = true)) (ch9 : Hid (f9 = true → f0 = true)) (ch10 : Hid (f10 = true → f4 = true)) (ch11 : Hid (f11 = true → f8 = true)) (hB : (f9 = false → Below V.heap.size V w')) (rb : Box w' RB [.int .i64 b, .string m]) (rz : Box w' (w.heap.size + 1) [.bool false, .string ⟨#[]⟩, .string ⟨#[]⟩, .string ⟨#[]⟩, .string ⟨#[]⟩, .string ⟨#[]⟩, .string ⟨#[]⟩, .string ⟨#[]⟩, .slice none 0 0, .slice none 0 0, .slice none 0 0]) (bw : Below w.heap.size w w') : zeJ RB b m w V x0 x1 x2 y3 y4 x5 x6 x7 x8 x9 x10 x11 x12 x13 x14 x15 x16 x17 x18 x19 x20 x21 x22 x23 x24 x25 x26 x27 x28 x29 x30 x31 x32 x33 x34 x35 x36 x37 x38 x39 x40 x41 x42 x43 x44 x45 x46 x47 x48 x49 x50 x51 x52 x53 x54 x55 x56 x57 x58 x59 x60 x61 x62 x63 x64 x65 x66 x67 x68 x69 x70 x71 x72 x73 x74 x75 x76 x77 x78 x79 x80 x81 x82 x83 x84 x85 x86 x87 x88 x89 x90 x91 x92 x93 x94 x95 x96 x97 x98 x99 x100 x101 x102 x103 x104 x105 x106 x107 x108 x109 x110 x111 x112 x113 x114 x115 x116 x117 x118 x119 x120 x121 x122 x123 x124 x125 x126 x127 x128 x129 x130 x131 x132 x133 x134 x135 x136 x137 x138 x139 x140 x141 y142 y143 y144 y145 y146 y147 y148 y149 y150 x151 listed atx w' := by
 subst hl ha
 exact .mk f0 f1 f2 f3 f4 f5 f6 f7 f8 f9 f10 f11  w' ch2 ch3 ch4 ch6 ch7 ch8 ch9 ch10 ch11 hB rb rz bw
def prUpd (RB PB kb : Nat) (kn kx tv : S) (q1 q3 : Option Addr) (l1 q2 l3 q4 : Nat) (pa : Option Addr) (i pc : Nat) (x0 x1 x2 x3 x4 x5 x6 x7 x8 x9 x10 x11 x12 x13 x14 x15 x16 x17 x18 x19 x20 x21 x22 x23 x24 x25 x26 x27 x28 x29 x30 x31 x32 x33 x34 x35 x36 x37 x38 x39 x40 x41 x42 x43 x44 x45 x46 x47 x48 x49 x50 x51 x52 x53 x54 x55 x56 x57 x58 x59 x60 x61 x62 x63 x64 x65 x66 x67 x68 x69 x70 x71 x72 x73 x74 x75 x76 x77 x78 x79 x80 x81 x82 x83 x84 x85 x86 x87 x88 x89 x90 x91 x92 x93 x94 x95 x96 x97 x98 x99 x100 x101 x102 x103 x104 x105 x106 y107 y108 y109 y110 y111 y112 y113 y114 y115 y116 y117 y118 y119 y120 x121 x122 x123 x124 x125 x126 x127 x128 x129 x130 x131 x132 x133 x134 x135 x136 x137 x138 x139 x140 x141 x142 x143 x144 x145 x146 x147 x148 x149 x150 x151 : Value) (f0 f1 f2 f3 f4 f5 f6 f7 f8 f9 f10 f11 f12 f13 _f14 : Bool) (H1 : Nat) (a8 : Option Addr) (c8 : Nat) : Act :=
 ⟨#[x0, x1, x2, x3, x4, x5, x6, x7, x8, x9, x10, x11, x12, x13, x14, x15, x16, x17, x18, x19, x20, x21, x22, x23, x24, x25, x26, x27, x28, x29, x30, x31, x32, x33, x34, x35, x36, x37, x38, x39, x40, x41, x42, x43, x44, x45, x46, x47, x48, x49, x50, x51, x52, x53, x54, x55, x56, x57, x58, x59, x60, x61, x62, x63, x64, x65, x66, x67, x68, x69, x70, x71, x72, x73, x74, x75, x76, x77, x78, x79, x80, x81, x82, x83, x84, x85, x86, x87, x88, x89, x90, x91, x92, x93, x94, x95, x96, x97, x98, x99, x100, x101, x102, x103, x104, x105, x106, cond f0 (.pointer (some ⟨PB, 8, none⟩)) y107, cond f1 (.slice pa i pc) y108, cond f2 (.pointer (some ⟨kb, 0, none⟩)) y109, cond f3 (.string kn) y110, cond f4 (.pointer (some ⟨RB, 0, none⟩)) y111, cond f5 (.agg #[.string kn, .slice q1 l1 q2, .slice q3 l3 q4, .string kx]) y112, cond f6 (.pointer (some ⟨kb, 0, none⟩)) y113, cond f7 (.string kn) y114, cond f8 (.string (⟨#[112, 114, 111, 106, 101, 99, 116, 47, 112, 114, 111, 112, 101, 114, 116, 105, 101, 115, 47]⟩ ++ kn)) y115, cond f9 (.string tv) y116, cond f10 (.agg #[.string kn, .string tv]) y117, cond f11 (.slice (some ⟨H1, 0, none⟩) 1 1) y118, cond f12 (.slice a8 (i + 1) c8) y119, cond f13 (.pointer (some ⟨PB, 8, none⟩)) y120, x121, x122, x123, x124, x125, x126, x127, x128, x129, x130, x131, x132, x133, x134, x135, x136, x137, x138, x139, x140, x141, x142, x143, x144, x145, x146, x147, x148, x149, x150, x151], []⟩
inductive prJ (RB PB kb : Nat) (sA sB : St) (w wq : World) (NC ZC DC : List Value) (kn kx tv : S) (q1 q3 : Option Addr) (l1 q2 l3 q4 : Nat) (pa : Option Addr) (i pc : Nat) (ps : List Prp) (V : World) (x0 x1 x2 x3 x4 x5 x6 x7 x8 x9 x10 x11 x12 x13 x14 x15 x16 x17 x18 x19 x20 x21 x22 x23 x24 x25 x26 x27 x28 x29 x30 x31 x32 x33 x34 x35 x36 x37 x38 x39 x40 x41 x42 x43 x44 x45 x46 x47 x48 x49 x50 x51 x52 x53 x54 x55 x56 x57 x58 x59 x60 x61 x62 x63 x64 x65 x66 x67 x68 x69 x70 x71 x72 x73 x74 x75 x76 x77 x78 x79 x80 x81 x82 x83 x84 x85 x86 x87 x88 x89 x90 x91 x92 x93 x94 x95 x96 x97 x98 x99 x100 x101 x102 x103 x104 x105 x106 y107 y108 y109 y110 y111 y112 y113 y114 y115 y116 y117 y118 y119 y120 x121 x122 x123 x124 x125 x126 x127 x128 x129 x130 x131 x132 x133 x134 x135 x136 x137 x138 x139 x140 x141 x142 x143 x144 x145 x146 x147 x148 x149 x150 x151 : Value) : Array Bool → Act → World → Prop where
 | mk (f0 f1 f2 f3 f4 f5 f6 f7 f8 f9 f10 f11 f12 f13 f14 : Bool) (H1 : Nat) (a8 : Option Addr) (c8 : Nat) (w' : World) (ch1 : Hid (f1 = true → f0 = true)) (ch3 : Hid (f3 = true → f2 = true)) (ch7 : Hid (f7 = true → f6 = true)) (ch8 : Hid (f8 = true → f7 = true)) (ch9 : Hid (f9 = true → f4 = true ∧ f5 = true ∧ f8 = true)) (ch10 : Hid (f10 = true → f3 = true ∧ f9 = true)) (ch11 : Hid (f11 = true → f10 = true)) (ch12 : Hid (f12 = true → f1 = true ∧ f11 = true)) (ch14 : Hid (f14 = true → f12 = true ∧ f13 = true)) (hB : (f9 = false → Below V.heap.size V w')) (bp : (f14 = false → Box w' PB DC)) (bk : (f14 = false → Box w' kb [.string kn, .slice q1 l1 q2, .slice q3 l3 q4, .string kx])) (fa : (f9 = false → PrA RB sA w w.heap.size NC (w.heap.size + 1) ZC PB DC wq (.slice pa i pc) ps kb [.string kn, .slice q1 l1 q2, .slice q3 l3 q4, .string kx] w')) (fb : (f9 = true → f12 = false → PrA RB sB w w.heap.size NC (w.heap.size + 1) ZC PB DC wq (.slice pa i pc) ps kb [.string kn, .slice q1 l1 q2, .slice q3 l3 q4, .string kx] w')) (r118 : (f11 = true → f12 = false → SliceOf 2 prpC w' (.slice (some ⟨H1, 0, none⟩) 1 1) [(⟨kn, tv⟩ : Prp)])) (fc : (f12 = true → f14 = false → PrB RB sB w w.heap.size NC (w.heap.size + 1) ZC PB DC wq (.slice a8 (i + 1) c8) (ps ++ [(⟨kn, tv⟩ : Prp)]) w')) (fd : (f14 = true → PrB RB sB w w.heap.size NC (w.heap.size + 1) ZC PB (DC.set 8 (.slice a8 (i + 1) c8)) wq (.slice a8 (i + 1) c8) (ps ++ [(⟨kn, tv⟩ : Prp)]) w')) : prJ RB PB kb sA sB w wq NC ZC DC kn kx tv q1 q3 l1 q2 l3 q4 pa i pc ps V x0 x1 x2 x3 x4 x5 x6 x7 x8 x9 x10 x11 x12 x13 x14 x15 x16 x17 x18 x19 x20 x21 x22 x23 x24 x25 x26 x27 x28 x29 x30 x31 x32 x33 x34 x35 x36 x37 x38 x39 x40 x41 x42 x43 x44 x45 x46 x47 x48 x49 x50 x51 x52 x53 x54 x55 x56 x57 x58 x59 x60 x61 x62 x63 x64 x65 x66 x67 x68 x69 x70 x71 x72 x73 x74 x75 x76 x77 x78 x79 x80 x81 x82 x83 x84 x85 x86 x87 x88 x89 x90 x91 x92 x93 x94 x95 x96 x97 x98 x99 x100 x101 x102 x103 x104 x105 x106 y107 y108 y109 y110 y111 y112 y113 y114 y115 y116 y117 y118 y119 y120 x121 x122 x123 x124 x125 x126 x127 x128 x129 x130 x131 x132 x133 x134 x135 x136 x137 x138 x139 x140 x141 x142 x143 x144 x145 x146 x147 x148 x149 x150 x151 #[f0, f1, f2, f3, f4, f5, f6, f7, f8, f9, f10, f11, f12, f13, f14] (prUpd RB PB kb kn kx tv q1 q3 l1 q2 l3 q4 pa i pc x0 x1 x2 x3 x4 x5 x6 x7 x8 x9 x10 x11 x12 x13 x14 x15 x16 x17 x18 x19 x20 x21 x22 x23 x24 x25 x26 x27 x28 x29 x30 x31 x32 x33 x34 x35 x36 x37 x38 x39 x40 x41 x42 x43 x44 x45 x46 x47 x48 x49 x50 x51 x52 x53 x54 x55 x56 x57 x58 x59 x60 x61 x62 x63 x64 x65 x66 x67 x68 x69 x70 x71 x72 x73 x74 x75 x76 x77 x78 x79 x80 x81 x82 x83 x84 x85 x86 x87 x88 x89 x90 x91 x92 x93 x94 x95 x96 x97 x98 x99 x100 x101 x102 x103 x104 x105 x106 y107 y108 y109 y110 y111 y112 y113 y114 y115 y116 y117 y118 y119 y120 x121 x122 x123 x124 x125 x126 x127 x128 x129 x130 x131 x132 x133 x134 x135 x136 x137 x138 x139 x140 x141 x142 x143 x144 x145 x146 x147 x148 x149 x150 x151 f0 f1 f2 f3 f4 f5 f6 f7 f8 f9 f10 f11 f12 f13 f14 H1 a8 c8) w'
theorem prJ.at {RB PB kb : Nat} {sA sB : St} {w wq : World} {NC ZC DC : List Value} {kn kx tv : S} {q1 q3 : Option Addr} {l1 q2 l3 q4 : Nat} {pa : Option Addr} {i pc : Nat} {ps : List Prp} {V : World} {x0 x1 x2 x3 x4 x5 x6 x7 x8 x9 x10 x11 x12 x13 x14 x15 x16 x17 x18 x19 x20 x21 x22 x23 x24 x25 x26 x27 x28 x29 x30 x31 x32 x33 x34 x35 x36 x37 x38 x39 x40 x41 x42 x43 x44 x45 x46 x47 x48 x49 x50 x51 x52 x53 x54 x55 x56 x57 x58 x59 x60 x61 x62 x63 x64 x65 x66 x67 x68 x69 x70 x71 x72 x73 x74 x75 x76 x77 x78 x79 x80 x81 x82 x83 x84 x85 x86 x87 x88 x89 x90 x91 x92 x93 x94 x95 x96 x97 x98 x99 x100 x101 x102 x103 x104 x105 x106 y107 y108 y109 y110 y111 y112 y113 y114 y115 y116 y117 y118 y119 y120 x121 x122 x123 x124 x125 x126 x127 x128 x129 x130 x131 x132 x133 x134 x135 x136 x137 x138 x139 x140 x141 x142 x143 x144 x145 x146 x147 x148 x149 x150 x151 : Value} {listed : Array Bool} {atx : Act} {w' : World} (f0 f1 f2 f3 f4 f5 f6 f7 f8 f9 f10 f11 f12 f13 f14 : Bool) (H1 : Nat) (a8 : Option Addr) (c8 : Nat) (hl : listed = #[f0, f1, f2, f3, f4, f5, f6, f7, f8, f9, f10, f11, f12, f13, f14]) (ha : atx = prUpd RB PB kb kn kx tv q1 q3 l1 q2 l3 q4 pa i pc x0 x1 x2 x3 x4 x5 x6 x7 x8 x9 x10 x11 x12 x13 x14 x15 x16 x17 x18 x19 x20 x21 x22 x23 x24 x25 x26 x27 x28 x29 x30 x31 x32 x33 x34 x35 x36 x37 x38 x39 x40 x41 x42 x43 x44 x45 x46 x47 x48 x49 x50 x51 x52 x53 x54 x55 x56 x57 x58 x59 x60 x61 x62 x63 x64 x65 x66 x67 x68 x69 x70 x71 x72 x73 x74 x75 x76 x77 x78 x79 x80 x81 x82 x83 x84 x85 x86 x87 x88 x89 x90 x91 x92 x93 x94 x95 x96 x97 x98 x99 x100 x101 x102 x103 x104 x105 x106 y107 y108 y109 y110 y111 y112 y113 y114 y115 y116 y117 y118 y119 y120 x121 x122 x123 x124 x125 x126 x127 x128 x129 x130 x131 x132 x133 x134 x135 x136 x137 x138 x139 x140 x141 x142 x143 x144 x145 x146 x147 x148 x149 x150 x151 f0 f1 f2 f3 f4 f5 f6 f7 f8 f9 f10 f11 f12 f13 f14 H1 a8 c8) (ch1 : Hid (f1 = true → f0 = true)) (ch3 : Hid (f3 = true → f2 = true)) (ch7 : Hid (f7 = true → f6 = true)) (ch8 : Hid (f8 = true → f7 = true)) (ch9 : Hid (f9 = true → f4 = true ∧ f5 = true ∧ f8 = true)) (ch10 : Hid (f10 = true → f3 = true ∧ f9 = true)) (ch11 : Hid (f11 = true → f10 = true)) (ch12 : Hid (f12 = true → f1 = true ∧ f11 = true)) (ch14 : Hid (f14 = true → f12 = true ∧ f13 = true)) (hB : (f9 = false → Below V.heap.size V w')) (bp : (f14 = false → Box w' PB DC)) (bk : (f14 = false → Box w' kb [.string kn, .slice q1 l1 q2, .slice q3 l3 q4, .string kx])) (fa : (f9 = false → PrA RB sA w w.heap.size NC (w.heap.size + 1) ZC PB DC wq (.slice pa i pc) ps kb [.string kn, .slice q1 l1 q2, .slice q3 l3 q4, .string kx] w')) (fb : (f9 = true → f12 = false → PrA RB sB w w.heap.size NC (w.heap.size + 1) ZC PB DC wq (.slice pa i pc) ps kb [.string kn, .slice q1 l1 q2, .slice q3 l3 q4, .string kx] w')) (r118 : (f11 = true → f12 = false → SliceOf 2 prpC w' (.slice (some ⟨H1, 0, none⟩) 1 1) [(⟨kn, tv⟩ : Prp)])) (fc : (f12 = true → f14 = false → PrB RB sB w w.heap.size NC (w.heap.size + 1) ZC PB DC wq (.slice a8 (i + 1) c8) (ps ++ [(⟨kn, tv⟩ : Prp)]) w')) (fd : (f14 = true → PrB RB sB w w.heap.size NC (w.heap.size + 1) ZC PB (DC.set 8 (.slice a8 (i + 1) c8)) wq (.slice a8 (i + 1) c8) (ps ++ [(⟨kn, tv⟩ : Prp)]) w')) : prJ RB PB kb sA sB w wq NC ZC DC kn kx tv q1 q3 l1 q2 l3 q4 pa i pc ps V x0 x1 x2 x3 x4 x5 x6 x7 x8 x9 x10 x11 x12 x13 x14 x15 x16 x17 x18 x19 x20 x21 x22 x23 x24 x25 x26 x27 x28 x29 x30 x31 x32 x33 x34 x35 x36 x37 x38 x39 x40 x41 x42 x43 x44 x45 x46 x47 x48 x49 x50 x51 x52 x53 x54 x55 x56 x57 x58 x59 x60 x61 x62 x63 x64 x65 x66 x67 x68 x69 x70 x71 x72 x73 x74 x75 x76 x77 x78 x79 x80 x81 x82 x83 x84 x85 x86 x87 x88 x89 x90 x91 x92 x93 x94 x95 x96 x97 x98 x99 x100 x101 x102 x103 x104 x105 x106 y107 y108 y109 y110 y111 y112 y113 y114 y115 y116 y117 y118 y119 y120 x121 x122 x123 x124 x125 x126 x127 x128 x129 x130 x131 x132 x133 x134 x135 x136 x137 x138 x139 x140 x141 x142 x143 x144 x145 x146 x147 x148 x149 x150 x151 listed atx w' := by
 subst hl ha
 exact .mk f0 f1 f2 f3 f4 f5 f6 f7 f8 f9 f10 f11 f12 f13 f14 H1 a8 c8 w' ch1 ch3 ch7 ch8 ch9 ch10 ch11 ch12 ch14 hB bp bk fa fb r118 fc fd
set_option maxRecDepth 100000 in
set_option maxHeartbeats 64000000 in
theorem readR_any (t : Tr) (w : World) (av kv : Value) (ht : NodeOf w t av kv) (hm : MildW t) :
    Calls Tryz.prog 14 #[.agg #[.string (bs t.name), av, kv, .string (bs t.text)]] w (ReadOut t w) := by
 obtain ⟨ao, ac, ko, kc, rfl, rfl, hal, -⟩ := ht.shape
 obtain ⟨s0, hs0⟩ : ∃ s0 : St, s0 = (0, ⟨#[]⟩) := ⟨_, rfl⟩
 obtain ⟨T, hT⟩ : ∃ T, T = stp s0 (readE t) := ⟨_, rfl⟩
 have HS0 : Hid (T = stp s0 ((nameE t).or ((parentE t bProject).or ((wordE t bProject bGroup false freeB).or ((wordE t bProject bArtifact true freeB).or ((wordE t bProject bVersion false freeB).or ((wordE t bProject bPackaging false freeB).or ((propsE t bProject).or ((managedE t bProject).or (depsE false t bProject)))))))))) := hT
 have HTE : Hid (T = match readE t with
  | none => (0, ⟨#[]⟩)
  | some x => (x.1, bs x.2)) := by
  show _ = _
  rw [hT, hs0]
  cases readE t <;> rfl
 have HT : Hid (NodeX (fun j => w.heap.size ≤ j) w t (.slice ao t.attrs.length ac) (.slice ko t.kids.length kc)) := ht.fresh
 have HM := Lib.hid hm
 have HRX : Hid (w.heap.size ≤ w.heap.size + 2) := Nat.le_add_right _ _
 have HSZ := Lib.hid hs0
 obtain ⟨q, hq⟩ : ∃ q, q = decide (t.name = bProject) := ⟨_, rfl⟩
 have h1 := bs_lit t.name [112, 114, 111, 106, 101, 99, 116]
 rw [show decide (t.name = [112, 114, 111, 106, 101, 99, 116]) = q from hq.symm] at h1
 have HQ : Hid (nameE t = if q then none else some (20, t.name)) := by
  show _ = _
  unfold nameE
  by_cases e : t.name = bProject
  · rw [if_pos e, hq, decide_eq_true e]; rfl
  · rw [if_neg e, hq, decide_eq_false e]; rfl
 clear ht hm hT hq
 go_enter Tryz.func14, Tryz.ntmps14
 go_upto_region 3 with fail
 refine wp_world ?_
 intro W hW
 have hF : Frm3 (w.heap.size + 2) s0 w w.heap.size [.string (bs t.name), .slice ao t.attrs.length ac, .slice ko t.kids.length kc, .string (bs t.text)] (w.heap.size + 1) [.bool false, .string ⟨#[]⟩, .string ⟨#[]⟩, .string ⟨#[]⟩, .string ⟨#[]⟩, .string ⟨#[]⟩, .string ⟨#[]⟩, .string ⟨#[]⟩, .slice none 0 0, .slice none 0 0, .slice none 0 0] (w.heap.size + 3) [.bool false, .string ⟨#[]⟩, .string ⟨#[]⟩, .string ⟨#[]⟩, .string ⟨#[]⟩, .string ⟨#[]⟩, .string ⟨#[]⟩, .string ⟨#[]⟩, .slice none 0 0, .slice none 0 0, .slice none 0 0] W := by
  have hb : Below w.heap.size w W := by rw [hW]; exact ((((Below.refl _ w).alloc (Nat.le_refl _) _).alloc (by simp) _).alloc (by simp; omega) _).alloc (by simp; omega) _
  refine ⟨?_, ?_, ?_, ?_, below_gr hb, ?_⟩
  · rw [hW]; exact (((Box.new w [.string (bs t.name), .slice ao t.attrs.length ac, .slice ko t.kids.length kc, .string (bs t.text)] _ _ rfl).alloc _).alloc _).alloc _
  · rw [hW]; exact ((Box.new _ [.bool false, .string ⟨#[]⟩, .string ⟨#[]⟩, .string ⟨#[]⟩, .string ⟨#[]⟩, .string ⟨#[]⟩, .string ⟨#[]⟩, .string ⟨#[]⟩, .slice none 0 0, .slice none 0 0, .slice none 0 0] _ _ (by simp)).alloc _).alloc _
  · rw [hW]; exact Box.new _ [.bool false, .string ⟨#[]⟩, .string ⟨#[]⟩, .string ⟨#[]⟩, .string ⟨#[]⟩, .string ⟨#[]⟩, .string ⟨#[]⟩, .string ⟨#[]⟩, .slice none 0 0, .slice none 0 0, .slice none 0 0] _ _ (by simp)
  · rw [hW, hs0]; exact (Box.new _ [.int .i64 0, .string ⟨#[]⟩] _ _ (by simp)).alloc _
  · omega
 clear hW hs0
 have HF0 := Lib.hid hF
 clear hF
 obtain ⟨s1, hs⟩ : ∃ q, q = stp s0 (nameE t) := ⟨_, rfl⟩
 have HS1 : Hid (T = stp s1 ((parentE t bProject).or ((wordE t bProject bGroup false freeB).or ((wordE t bProject bArtifact true freeB).or ((wordE t bProject bVersion false freeB).or ((wordE t bProject bPackaging false freeB).or ((propsE t bProject).or ((managedE t bProject).or (depsE false t bProject))))))))) := by show _ = _; rw [HS0.out, ← stp_or (nameE_nz _), ← hs]
 have HE0 := Lib.hid hs
 clear hs HS0
 obtain ⟨a0, a1, a2, a3⟩ := bxc4 HF0.out.n
 have al := HF0.out.n.lt
 go_upto_if 22 with fail
 go_cut [] from 20 to 26 (fun wx => Hid (Frm3 (w.heap.size + 2) s1 w w.heap.size [.string (bs t.name), .slice ao t.attrs.length ac, .slice ko t.kids.length kc, .string (bs t.text)] (w.heap.size + 1) [.bool false, .string ⟨#[]⟩, .string ⟨#[]⟩, .string ⟨#[]⟩, .string ⟨#[]⟩, .string ⟨#[]⟩, .string ⟨#[]⟩, .string ⟨#[]⟩, .slice none 0 0, .slice none 0 0, .slice none 0 0] (w.heap.size + 3) [.bool false, .string ⟨#[]⟩, .string ⟨#[]⟩, .string ⟨#[]⟩, .string ⟨#[]⟩, .string ⟨#[]⟩, .string ⟨#[]⟩, .string ⟨#[]⟩, .slice none 0 0, .slice none 0 0, .slice none 0 0] wx))
 case first =>
  cases q with
  | true =>
   have HN : Hid (s1 = s0) := by show _ = _; rw [HE0.out, HQ.out]; rfl
   go_wp2
   go_meet
   case rel => show Frm3 _ _ _ _ _ _ _ _ _ _; rw [HN.out]; exact HF0.out
  | false =>
   have HN : Hid (s1 = stp s0 (some (20, t.name))) := by show _ = _; rw [HE0.out, HQ.out]; rfl
   go_wp2_with fail
   refine (failR_some (w.heap.size + 2) s0 (20, t.name) (bs t.name) _ HF0.out.r rfl).mono ?_
   rintro e w2 ⟨rfl, hr, hg⟩
   have HF2 := Lib.hid (HF0.out.call hr hg)
   clear hr hg
   go_wp2
   go_meet
   case rel => show Frm3 _ _ _ _ _ _ _ _ _ _; rw [HN.out]; exact HF2.out
 case rest =>
  have HF1 := Lib.hid hcut
  clear hcut HF0 a0 a1 a2 a3 al h1 HQ HE0
  obtain ⟨s1b, hs1b⟩ : ∃ q, q = stp s1 (manyE t bProject bParent) := ⟨_, rfl⟩
  obtain ⟨s2, hs⟩ : ∃ q, q = stp s1 (parentE t bProject) := ⟨_, rfl⟩
  have HS2 : Hid (T = stp s2 ((wordE t bProject bGroup false freeB).or ((wordE t bProject bArtifact true freeB).or ((wordE t bProject bVersion false freeB).or ((wordE t bProject bPackaging false freeB).or ((propsE t bProject).or ((managedE t bProject).or (depsE false t bProject)))))))) := by show _ = _; rw [HS1.out, ← stp_or (parentE_nz _ _), ← hs]
  have HE1 := Lib.hid hs
  clear hs HS1
  have HE1b : Hid (s2 = stp s1b (match oneV t bParent with
   | none => none
   | some f => (wordE f (sl bProject bParent) bGroup true isIdQ).or ((wordE f (sl bProject bParent) bArtifact true isIdQ).or (wordE f (sl bProject bParent) bVersion true verQ)))) := by
   show _ = _
   rw [HE1.out, hs1b]
   exact (stp_or (manyE_nz _ _ _)).symm
  have HPV : Hid (parentV t = match oneV t bParent with
   | none => (false, ⟨⟨#[]⟩, ⟨#[]⟩, ⟨#[]⟩⟩)
   | some f => (true, ⟨bs (wordV f bGroup), bs (wordV f bArtifact), bs (wordV f bVersion)⟩)) := rfl
  have HMX : Hid (∀ k, oneV t bParent = some k → MildW k) := fun k h => HM.out.one h
  clear HE1
  obtain ⟨a0, a1, a2, a3⟩ := bxc4 HF1.out.n
  have al := HF1.out.n.lt
  have hon := oneR_any (w.heap.size + 2) s1 (fun j => w.heap.size ≤ j) t bProject bParent _ _ _ (HT.out.gr HF1.out.g HRX.out) HRX.out HF1.out.r HM.out.kl (by decide)
  unfold nodeV at hon
  go_wp2_with fail
  refine hon.mono ?_
  clear hon
  intro e w8 hO
  obtain ⟨v8, rfl, hv8, hr8, hg8⟩ := hO
  have HF8 := Lib.hid (HF1.out.call hr8 hg8)
  obtain ⟨q, n0, x0, b1, b3, l1, b2, l3, b4, rfl, hqt, hqf⟩ := hv8.gen
  have HQT := Lib.hid hqt
  have HQF := Lib.hid hqf
  clear hr8 hg8 hv8 hqt hqf HF1 a0 a1 a2 a3 al
  go_upto_region 6 with fail
  refine wp_world ?_
  intro W9 hW9
  have x9 : Box W9 w8.heap.size [.string n0, .slice b1 l1 b2, .slice b3 l3 b4, .string x0] := by rw [hW9]; exact Box.new w8 [.string n0, .slice b1 l1 b2, .slice b3 l3 b4, .string x0] _ _ rfl
  have hb9 : Below w8.heap.size w8 W9 := by rw [hW9]; exact (Below.refl _ _).alloc (Nat.le_refl _) _
  clear hW9
  have HX9 := Lib.hid x9
  have HB9 := Lib.hid hb9
  have HF9 := Lib.hid (HF8.out.below hb9)
  have HXN : Hid (w8.heap.size ≠ (w.heap.size + 2) ∧ w8.heap.size ≠ w.heap.size + 3 ∧ w.heap.size + 3 < w8.heap.size) := by have h1 := HF8.out.d.lt; exact ⟨by omega, by omega, h1⟩
  clear x9 hb9 HF8
  go_upto_if 33 with fail
  rw [← hs1b] at HF9
  clear hs1b
  go_cut [] from 33 to 49 (fun wx => Hid (Frm3 (w.heap.size + 2) s2 w w.heap.size [.string (bs t.name), .slice ao t.attrs.length ac, .slice ko t.kids.length kc, .string (bs t.text)] (w.heap.size + 1) [.bool false, .string ⟨#[]⟩, .string ⟨#[]⟩, .string ⟨#[]⟩, .string ⟨#[]⟩, .string ⟨#[]⟩, .string ⟨#[]⟩, .string ⟨#[]⟩, .slice none 0 0, .slice none 0 0, .slice none 0 0] (w.heap.size + 3) [.bool (parentV t).1, .string (parentV t).2.group, .string (parentV t).2.artifact, .string (parentV t).2.version, .string ⟨#[]⟩, .string ⟨#[]⟩, .string ⟨#[]⟩, .string ⟨#[]⟩, .slice none 0 0, .slice none 0 0, .slice none 0 0] wx))
  case first =>
   cases q with
   | false =>
    have ho := HQF.out rfl
    have HN : Hid (s2 = s1b) := by show _ = _; rw [HE1b.out, ho]; rfl
    have HPF : Hid (parentV t = (false, ⟨⟨#[]⟩, ⟨#[]⟩, ⟨#[]⟩⟩)) := by show _ = _; rw [HPV.out, ho]
    clear ho
    go_wp2
    go_meet
    case rel => show Frm3 _ _ _ _ _ _ _ _ _ _; rw [HN.out, HPF.out]; exact HF9.out
   | true =>
    obtain ⟨k, ho, rfl, rfl, rfl, rfl, hnk⟩ := HQT.out rfl
    have HNK := Lib.hid (hnk.later HB9.out)
    have HMK := Lib.hid (HMX.out k ho)
    have HN : Hid (s2 = stp s1b ((wordE k (sl bProject bParent) bGroup true isIdQ).or ((wordE k (sl bProject bParent) bArtifact true isIdQ).or (wordE k (sl bProject bParent) bVersion true verQ)))) := by show _ = _; rw [HE1b.out, ho]
    have HPF : Hid (parentV t = (true, ⟨bs (wordV k bGroup), bs (wordV k bArtifact), bs (wordV k bVersion)⟩)) := by show _ = _; rw [HPV.out, ho]
    clear ho hnk HQT HQF HMX HB9
    have d0 := HF9.out.d.cell 0 _ rfl
    have df0 := HF9.out.d.free 0
    have dl := HF9.out.d.lt
    go_upto_region 8 with fail
    refine wp_world ?_
    intro W1 hW1
    have g1 : W9.grownBy W1 (some (w.heap.size + 3)) := by rw [hW1]; exact setCell_grown _ _ _ _
    have HP0 : Hid (Frm3 (w.heap.size + 2) s1b w w.heap.size [.string (bs t.name), .slice ao t.attrs.length ac, .slice ko t.kids.length kc, .string (bs t.text)] (w.heap.size + 1) [.bool false, .string ⟨#[]⟩, .string ⟨#[]⟩, .string ⟨#[]⟩, .string ⟨#[]⟩, .string ⟨#[]⟩, .string ⟨#[]⟩, .string ⟨#[]⟩, .slice none 0 0, .slice none 0 0, .slice none 0 0] (w.heap.size + 3) [.bool true, .string ⟨#[]⟩, .string ⟨#[]⟩, .string ⟨#[]⟩, .string ⟨#[]⟩, .string ⟨#[]⟩, .string ⟨#[]⟩, .string ⟨#[]⟩, .slice none 0 0, .slice none 0 0, .slice none 0 0] W1) := by rw [hW1]; exact HF9.out.set 0 _
    have HX0 := Lib.hid (HX9.out.gr g1 HXN.out.2.1)
    have HN0 := Lib.hid (HNK.out.gr g1 (by exact Nat.le_add_right _ _))
    clear hW1 g1 HF9 HX9 HNK d0 df0 dl
    obtain ⟨k0, k1, k2, k3⟩ := bxc4 HX0.out
    have kl := HX0.out.lt
    have hwc := wordR_any (w.heap.size + 2) s1b (fun j => w.heap.size ≤ j) 1 _ .k1 k (sl bProject bParent) bGroup true _ _ _ HN0.out HMK.out HRX.out HP0.out.r (by decide)
    unfold nodeV at hwc
    go_wp2_with fail
    refine hwc.mono ?_
    clear hwc
    rintro e w5 ⟨rfl, hr5, hg5⟩
    obtain ⟨p1, hp⟩ : ∃ q, q = stp s1b (wordE k (sl bProject bParent) bGroup true isIdQ) := ⟨_, rfl⟩
    rw [← hp] at hr5
    have HM1 : Hid (s2 = stp p1 ((wordE k (sl bProject bParent) bArtifact true isIdQ).or (wordE k (sl bProject bParent) bVersion true verQ))) := by show _ = _; rw [HN.out, ← stp_or (wordE_nz _ _ _ _ _), ← hp]
    have HPA := Lib.hid (HP0.out.call hr5 hg5)
    have HXA := Lib.hid (HX0.out.gr hg5 HXN.out.1)
    have HNA := Lib.hid (HN0.out.gr hg5 HRX.out)
    clear hp hr5 hg5 HP0 HX0 HN0 k0 k1 k2 k3 kl HN
    have d1 := HPA.out.d.cell 1 _ rfl
    have df1 := HPA.out.d.free 1
    have dl := HPA.out.d.lt
    go_upto_region 9 with fail
    refine wp_world ?_
    intro W1 hW1
    have g1 : w5.grownBy W1 (some (w.heap.size + 3)) := by rw [hW1]; exact setCell_grown _ _ _ _
    have HP1 : Hid (Frm3 (w.heap.size + 2) p1 w w.heap.size [.string (bs t.name), .slice ao t.attrs.length ac, .slice ko t.kids.length kc, .string (bs t.text)] (w.heap.size + 1) [.bool false, .string ⟨#[]⟩, .string ⟨#[]⟩, .string ⟨#[]⟩, .string ⟨#[]⟩, .string ⟨#[]⟩, .string ⟨#[]⟩, .string ⟨#[]⟩, .slice none 0 0, .slice none 0 0, .slice none 0 0] (w.heap.size + 3) [.bool true, .string (bs (wordV k bGroup)), .string ⟨#[]⟩, .string ⟨#[]⟩, .string ⟨#[]⟩, .string ⟨#[]⟩, .string ⟨#[]⟩, .string ⟨#[]⟩, .slice none 0 0, .slice none 0 0, .slice none 0 0] W1) := by rw [hW1]; exact HPA.out.set 1 _
    have HX1 := Lib.hid (HXA.out.gr g1 HXN.out.2.1)
    have HN1 := Lib.hid (HNA.out.gr g1 (by exact Nat.le_add_right _ _))
    clear hW1 g1 HPA HXA HNA d1 df1 dl
    obtain ⟨k0, k1, k2, k3⟩ := bxc4 HX1.out
    have kl := HX1.out.lt
    have hwc := wordR_any (w.heap.size + 2) p1 (fun j => w.heap.size ≤ j) 1 _ .k1 k (sl bProject bParent) bArtifact true _ _ _ HN1.out HMK.out HRX.out HP1.out.r (by decide)
    unfold nodeV at hwc
    go_wp2_with fail
    refine hwc.mono ?_
    clear hwc
    rintro e w5 ⟨rfl, hr5, hg5⟩
    obtain ⟨p2, hp⟩ : ∃ q, q = stp p1 (wordE k (sl bProject bParent) bArtifact true isIdQ) := ⟨_, rfl⟩
    rw [← hp] at hr5
    have HM2 : Hid (s2 = stp p2 (wordE k (sl bProject bParent) bVersion true verQ)) := by show _ = _; rw [HM1.out, ← stp_or (wordE_nz _ _ _ _ _), ← hp]
    have HPA := Lib.hid (HP1.out.call hr5 hg5)
    have HXA := Lib.hid (HX1.out.gr hg5 HXN.out.1)
    have HNA := Lib.hid (HN1.out.gr hg5 HRX.out)
    clear hp hr5 hg5 HP1 HX1 HN1 k0 k1 k2 k3 kl HM1
    have d2 := HPA.out.d.cell 2 _ rfl
    have df2 := HPA.out.d.free 2
    have dl := HPA.out.d.lt
    go_upto_region 10 with fail
    refine wp_world ?_
    intro W1 hW1
    have g1 : w5.grownBy W1 (some (w.heap.size + 3)) := by rw [hW1]; exact setCell_grown _ _ _ _
    have HP2 : Hid (Frm3 (w.heap.size + 2) p2 w w.heap.size [.string (bs t.name), .slice ao t.attrs.length ac, .slice ko t.kids.length kc, .string (bs t.text)] (w.heap.size + 1) [.bool false, .string ⟨#[]⟩, .string ⟨#[]⟩, .string ⟨#[]⟩, .string ⟨#[]⟩, .string ⟨#[]⟩, .string ⟨#[]⟩, .string ⟨#[]⟩, .slice none 0 0, .slice none 0 0, .slice none 0 0] (w.heap.size + 3) [.bool true, .string (bs (wordV k bGroup)), .string (bs (wordV k bArtifact)), .string ⟨#[]⟩, .string ⟨#[]⟩, .string ⟨#[]⟩, .string ⟨#[]⟩, .string ⟨#[]⟩, .slice none 0 0, .slice none 0 0, .slice none 0 0] W1) := by rw [hW1]; exact HPA.out.set 2 _
    have HX2 := Lib.hid (HXA.out.gr g1 HXN.out.2.1)
    have HN2 := Lib.hid (HNA.out.gr g1 (by exact Nat.le_add_right _ _))
    clear hW1 g1 HPA HXA HNA d2 df2 dl
    obtain ⟨k0, k1, k2, k3⟩ := bxc4 HX2.out
    have kl := HX2.out.lt
    have hwc := wordR_any (w.heap.size + 2) p2 (fun j => w.heap.size ≤ j) 2 _ .k2 k (sl bProject bParent) bVersion true _ _ _ HN2.out HMK.out HRX.out HP2.out.r (by decide)
    unfold nodeV at hwc
    go_wp2_with fail
    refine hwc.mono ?_
    clear hwc
    rintro e w5 ⟨rfl, hr5, hg5⟩
    obtain ⟨p3, hp⟩ : ∃ q, q = stp p2 (wordE k (sl bProject bParent) bVersion true verQ) := ⟨_, rfl⟩
    rw [← hp] at hr5
    have HM3 : Hid (s2 = p3) := by show _ = _; rw [HM2.out, ← hp]
    have HPA := Lib.hid (HP2.out.call hr5 hg5)
    have HXA := Lib.hid (HX2.out.gr hg5 HXN.out.1)
    have HNA := Lib.hid (HN2.out.gr hg5 HRX.out)
    clear hp hr5 hg5 HP2 HX2 HN2 k0 k1 k2 k3 kl HM2
    have d3 := HPA.out.d.cell 3 _ rfl
    have df3 := HPA.out.d.free 3
    have dl := HPA.out.d.lt
    go_wp2
    go_meet
    case rel => show Frm3 _ _ _ _ _ _ _ _ _ _; rw [HM3.out, HPF.out]; exact HPA.out.set 3 _
  case rest =>
   have HF2 := Lib.hid hcut
   clear hcut HF9 HX9 HB9 HXN HQT HQF HE1b HPV HMX
   obtain ⟨a0, a1, a2, a3⟩ := bxc4 HF2.out.n
   have al := HF2.out.n.lt
   have hwc := wordR_any (w.heap.size + 2) s2 (fun j => w.heap.size ≤ j) 0 _ .k0 t bProject bGroup false _ _ _ (HT.out.gr HF2.out.g HRX.out) HM.out HRX.out HF2.out.r (by decide)
   unfold nodeV at hwc
   go_wp2_with fail
   refine hwc.mono ?_
   clear hwc
   rintro e w8 ⟨rfl, hr8, hg8⟩
   have HF8 := Lib.hid (HF2.out.call hr8 hg8)
   clear hr8 hg8 HF2 a0 a1 a2 a3 al
   obtain ⟨s3, hs⟩ : ∃ q, q = stp s2 (wordE t bProject bGroup false freeB) := ⟨_, rfl⟩
   have HS3 : Hid (T = stp s3 ((wordE t bProject bArtifact true freeB).or ((wordE t bProject bVersion false freeB).or ((wordE t bProject bPackaging false freeB).or ((propsE t bProject).or ((managedE t bProject).or (depsE false t bProject))))))) := by show _ = _; rw [HS2.out, ← stp_or (wordE_nz _ _ _ _ _), ← hs]
   have HE2 := Lib.hid hs
   clear hs HS2
   rw [← HE2.out] at HF8
   clear HE2
   have d4 := HF8.out.d.cell 4 _ rfl
   have df4 := HF8.out.d.free 4
   have dl := HF8.out.d.lt
   go_upto_region 12 with fail
   refine wp_world ?_
   intro W9 hW9
   have HF3 : Hid (Frm3 (w.heap.size + 2) s3 w w.heap.size [.string (bs t.name), .slice ao t.attrs.length ac, .slice ko t.kids.length kc, .string (bs t.text)] (w.heap.size + 1) [.bool false, .string ⟨#[]⟩, .string ⟨#[]⟩, .string ⟨#[]⟩, .string ⟨#[]⟩, .string ⟨#[]⟩, .string ⟨#[]⟩, .string ⟨#[]⟩, .slice none 0 0, .slice none 0 0, .slice none 0 0] (w.heap.size + 3) [.bool (parentV t).1, .string (parentV t).2.group, .string (parentV t).2.artifact, .string (parentV t).2.version, .string (bs (wordV t bGroup)), .string ⟨#[]⟩, .string ⟨#[]⟩, .string ⟨#[]⟩, .slice none 0 0, .slice none 0 0, .slice none 0 0] W9) := by rw [hW9]; exact HF8.out.set 4 _
   clear hW9 HF8 d4 df4 dl
   obtain ⟨a0, a1, a2, a3⟩ := bxc4 HF3.out.n
   have al := HF3.out.n.lt
   have hwc := wordR_any (w.heap.size + 2) s3 (fun j => w.heap.size ≤ j) 0 _ .k0 t bProject bArtifact true _ _ _ (HT.out.gr HF3.out.g HRX.out) HM.out HRX.out HF3.out.r (by decide)
   unfold nodeV at hwc
   go_wp2_with fail
   refine hwc.mono ?_
   clear hwc
   rintro e w8 ⟨rfl, hr8, hg8⟩
   have HF8 := Lib.hid (HF3.out.call hr8 hg8)
   clear hr8 hg8 HF3 a0 a1 a2 a3 al
   obtain ⟨s4, hs⟩ : ∃ q, q = stp s3 (wordE t bProject bArtifact true freeB) := ⟨_, rfl⟩
   have HS4 : Hid (T = stp s4 ((wordE t bProject bVersion false freeB).or ((wordE t bProject bPackaging false freeB).or ((propsE t bProject).or ((managedE t bProject).or (depsE false t bProject)))))) := by show _ = _; rw [HS3.out, ← stp_or (wordE_nz _ _ _ _ _), ← hs]
   have HE3 := Lib.hid hs
   clear hs HS3
   rw [← HE3.out] at HF8
   clear HE3
   have d5 := HF8.out.d.cell 5 _ rfl
   have df5 := HF8.out.d.free 5
   have dl := HF8.out.d.lt
   go_upto_region 13 with fail
   refine wp_world ?_
   intro W9 hW9
   have HF4 : Hid (Frm3 (w.heap.size + 2) s4 w w.heap.size [.string (bs t.name), .slice ao t.attrs.length ac, .slice ko t.kids.length kc, .string (bs t.text)] (w.heap.size + 1) [.bool false, .string ⟨#[]⟩, .string ⟨#[]⟩, .string ⟨#[]⟩, .string ⟨#[]⟩, .string ⟨#[]⟩, .string ⟨#[]⟩, .string ⟨#[]⟩, .slice none 0 0, .slice none 0 0, .slice none 0 0] (w.heap.size + 3) [.bool (parentV t).1, .string (parentV t).2.group, .string (parentV t).2.artifact, .string (parentV t).2.version, .string (bs (wordV t bGroup)), .string (bs (wordV t bArtifact)), .string ⟨#[]⟩, .string ⟨#[]⟩, .slice none 0 0, .slice none 0 0, .slice none 0 0] W9) := by rw [hW9]; exact HF8.out.set 5 _
   clear hW9 HF8 d5 df5 dl
   obtain ⟨a0, a1, a2, a3⟩ := bxc4 HF4.out.n
   have al := HF4.out.n.lt
   have hwc := wordR_any (w.heap.size + 2) s4 (fun j => w.heap.size ≤ j) 0 _ .k0 t bProject bVersion false _ _ _ (HT.out.gr HF4.out.g HRX.out) HM.out HRX.out HF4.out.r (by decide)
   unfold nodeV at hwc
   go_wp2_with fail
   refine hwc.mono ?_
   clear hwc
   rintro e w8 ⟨rfl, hr8, hg8⟩
   have HF8 := Lib.hid (HF4.out.call hr8 hg8)
   clear hr8 hg8 HF4 a0 a1 a2 a3 al
   obtain ⟨s5, hs⟩ : ∃ q, q = stp s4 (wordE t bProject bVersion false freeB) := ⟨_, rfl⟩
   have HS5 : Hid (T = stp s5 ((wordE t bProject bPackaging false freeB).or ((propsE t bProject).or ((managedE t bProject).or (depsE false t bProject))))) := by show _ = _; rw [HS4.out, ← stp_or (wordE_nz _ _ _ _ _), ← hs]
   have HE4 := Lib.hid hs
   clear hs HS4
   rw [← HE4.out] at HF8
   clear HE4
   have d6 := HF8.out.d.cell 6 _ rfl
   have df6 := HF8.out.d.free 6
   have dl := HF8.out.d.lt
   go_upto_region 14 with fail
   refine wp_world ?_
   intro W9 hW9
   have HF5 : Hid (Frm3 (w.heap.size + 2) s5 w w.heap.size [.string (bs t.name), .slice ao t.attrs.length ac, .slice ko t.kids.length kc, .string (bs t.text)] (w.heap.size + 1) [.bool false, .string ⟨#[]⟩, .string ⟨#[]⟩, .string ⟨#[]⟩, .string ⟨#[]⟩, .string ⟨#[]⟩, .string ⟨#[]⟩, .string ⟨#[]⟩, .slice none 0 0, .slice none 0 0, .slice none 0 0] (w.heap.size + 3) [.bool (parentV t).1, .string (parentV t).2.group, .string (parentV t).2.artifact, .string (parentV t).2.version, .string (bs (wordV t bGroup)), .string (bs (wordV t bArtifact)), .string (bs (wordV t bVersion)), .string ⟨#[]⟩, .slice none 0 0, .slice none 0 0, .slice none 0 0] W9) := by rw [hW9]; exact HF8.out.set 6 _
   clear hW9 HF8 d6 df6 dl
   obtain ⟨a0, a1, a2, a3⟩ := bxc4 HF5.out.n
   have al := HF5.out.n.lt
   have hwc := wordR_any (w.heap.size + 2) s5 (fun j => w.heap.size ≤ j) 0 _ .k0 t bProject bPackaging false _ _ _ (HT.out.gr HF5.out.g HRX.out) HM.out HRX.out HF5.out.r (by decide)
   unfold nodeV at hwc
   go_wp2_with fail
   refine hwc.mono ?_
   clear hwc
   rintro e w8 ⟨rfl, hr8, hg8⟩
   have HF8 := Lib.hid (HF5.out.call hr8 hg8)
   clear hr8 hg8 HF5 a0 a1 a2 a3 al
   obtain ⟨s6, hs⟩ : ∃ q, q = stp s5 (wordE t bProject bPackaging false freeB) := ⟨_, rfl⟩
   have HS6 : Hid (T = stp s6 ((propsE t bProject).or ((managedE t bProject).or (depsE false t bProject)))) := by show _ = _; rw [HS5.out, ← stp_or (wordE_nz _ _ _ _ _), ← hs]
   have HE5 := Lib.hid hs
   clear hs HS5
   rw [← HE5.out] at HF8
   clear HE5
   have d7 := HF8.out.d.cell 7 _ rfl
   have df7 := HF8.out.d.free 7
   have dl := HF8.out.d.lt
   go_upto_region 15 with fail
   refine wp_world ?_
   intro W9 hW9
   have HF6 : Hid (Frm3 (w.heap.size + 2) s6 w w.heap.size [.string (bs t.name), .slice ao t.attrs.length ac, .slice ko t.kids.length kc, .string (bs t.text)] (w.heap.size + 1) [.bool false, .string ⟨#[]⟩, .string ⟨#[]⟩, .string ⟨#[]⟩, .string ⟨#[]⟩, .string ⟨#[]⟩, .string ⟨#[]⟩, .string ⟨#[]⟩, .slice none 0 0, .slice none 0 0, .slice none 0 0] (w.heap.size + 3) [.bool (parentV t).1, .string (parentV t).2.group, .string (parentV t).2.artifact, .string (parentV t).2.version, .string (bs (wordV t bGroup)), .string (bs (wordV t bArtifact)), .string (bs (wordV t bVersion)), .string (bs (wordV t bPackaging)), .slice none 0 0, .slice none 0 0, .slice none 0 0] W9) := by rw [hW9]; exact HF8.out.set 7 _
   clear hW9 HF8 d7 df7 dl
   obtain ⟨s6b, hs6b⟩ : ∃ q, q = stp s6 (manyE t bProject bProperties) := ⟨_, rfl⟩
   obtain ⟨s7, hs⟩ : ∃ q, q = stp s6 (propsE t bProject) := ⟨_, rfl⟩
   have HS7 : Hid (T = stp s7 ((managedE t bProject).or (depsE false t bProject))) := by show _ = _; rw [HS6.out, ← stp_or (propsE_nz _ _), ← hs]
   have HE6 := Lib.hid hs
   clear hs HS6
   have HE6b : Hid (s7 = stp s6b (match oneV t bProperties with
    | none => none
    | some f => (bigE (kidsF [] f.kids).length (sl bProject bProperties)).or (propsEgo (sl bProject bProperties) (kidsF [] f.kids) []))) := by
    show _ = _
    rw [HE6.out, hs6b]
    exact (stp_or (manyE_nz _ _ _)).symm
   have HPV : Hid (propsV t = match oneV t bProperties with
    | none => []
    | some f => (kidsF [] f.kids).map prpV) := rfl
   have HMX : Hid (∀ k, oneV t bProperties = some k → MildW k ∧ k.name = bProperties) := fun k h => ⟨HM.out.one h, oneV_name h (by decide)⟩
   clear HE6
   obtain ⟨a0, a1, a2, a3⟩ := bxc4 HF6.out.n
   have al := HF6.out.n.lt
   have hon := oneR_any (w.heap.size + 2) s6 (fun j => w.heap.size ≤ j) t bProject bProperties _ _ _ (HT.out.gr HF6.out.g HRX.out) HRX.out HF6.out.r HM.out.kl (by decide)
   unfold nodeV at hon
   go_wp2_with fail
   refine hon.mono ?_
   clear hon
   intro e w8 hO
   obtain ⟨v8, rfl, hv8, hr8, hg8⟩ := hO
   have HF8 := Lib.hid (HF6.out.call hr8 hg8)
   obtain ⟨q, n0, x0, b1, b3, l1, b2, l3, b4, rfl, hqt, hqf⟩ := hv8.gen
   have HQT := Lib.hid hqt
   have HQF := Lib.hid hqf
   clear hr8 hg8 hv8 hqt hqf HF6 a0 a1 a2 a3 al
   go_upto_region 16 with fail
   refine wp_world ?_
   intro W9 hW9
   have x9 : Box W9 w8.heap.size [.string n0, .slice b1 l1 b2, .slice b3 l3 b4, .string x0] := by rw [hW9]; exact Box.new w8 [.string n0, .slice b1 l1 b2, .slice b3 l3 b4, .string x0] _ _ rfl
   have hb9 : Below w8.heap.size w8 W9 := by rw [hW9]; exact (Below.refl _ _).alloc (Nat.le_refl _) _
   clear hW9
   have HX9 := Lib.hid x9
   have HB9 := Lib.hid hb9
   have HF9 := Lib.hid (HF8.out.below hb9)
   have HXN : Hid (w8.heap.size ≠ (w.heap.size + 2) ∧ w8.heap.size ≠ w.heap.size + 3 ∧ w.heap.size + 3 < w8.heap.size) := by have h1 := HF8.out.d.lt; exact ⟨by omega, by omega, h1⟩
   clear x9 hb9 HF8
   go_upto_if 72 with fail
   rw [← hs6b] at HF9
   clear hs6b
   go_cut [11, 12, 13, 15] from 72 to 121 (fun _ _ _ _ wx => ∃ (pa : Option Addr) (pn pc : Nat), Hid (Frm3 (w.heap.size + 2) s7 w w.heap.size [.string (bs t.name), .slice ao t.attrs.length ac, .slice ko t.kids.length kc, .string (bs t.text)] (w.heap.size + 1) [.bool false, .string ⟨#[]⟩, .string ⟨#[]⟩, .string ⟨#[]⟩, .string ⟨#[]⟩, .string ⟨#[]⟩, .string ⟨#[]⟩, .string ⟨#[]⟩, .slice none 0 0, .slice none 0 0, .slice none 0 0] (w.heap.size + 3) [.bool (parentV t).1, .string (parentV t).2.group, .string (parentV t).2.artifact, .string (parentV t).2.version, .string (bs (wordV t bGroup)), .string (bs (wordV t bArtifact)), .string (bs (wordV t bVersion)), .string (bs (wordV t bPackaging)), .slice pa pn pc, .slice none 0 0, .slice none 0 0] wx ∧ Owns (w.heap.size + 4) 55 2 prpC wx (.slice pa pn pc) (propsV t)))
   case first =>
    cases q with
    | false =>
     have ho := HQF.out rfl
     have HN : Hid (s7 = s6b) := by show _ = _; rw [HE6b.out, ho]; rfl
     have HPF : Hid (propsV t = []) := by show _ = _; rw [HPV.out, ho]
     clear ho
     go_wp2
     go_meet
     case rel => exact ⟨none, 0, 0, by rw [HN.out]; exact HF9.out, by rw [HPF.out]; exact Owns.nil⟩
    | true =>
     obtain ⟨k, ho, rfl, rfl, rfl, rfl, hnk⟩ := HQT.out rfl
     have HNK := Lib.hid (hnk.later HB9.out)
     have HMK := Lib.hid (HMX.out k ho)
     obtain ⟨K, hK⟩ : ∃ K, K = kidsF [] k.kids := ⟨_, rfl⟩
     have HN : Hid (s7 = stp s6b ((bigE K.length (sl bProject bProperties)).or (propsEgo (sl bProject bProperties) K []))) := by show _ = _; rw [HE6b.out, ho, hK]
     have HPF : Hid (propsV t = K.map prpV) := by show _ = _; rw [HPV.out, ho, hK]
     have HKM : Hid (∀ y ∈ K, MildW y ∧ y.name.length ≤ 1000000000) := fun y hy => ⟨HMK.out.1.kids y (kidsF_sub (by rw [← hK]; exact hy)), HMK.out.1.pname HMK.out.2 y (kidsF_sub (by rw [← hK]; exact hy))⟩
     have HKL : Hid (K.length ≤ 100000) := by show _ ≤ _; rw [hK]; exact Nat.le_trans (List.length_filter_le _ _) HMK.out.1.kl
     have hkc := refKids_x (X := fun j => w.heap.size ≤ j) k [] W9 _ _ HNK.out HMK.out.1.kl
     unfold nodeV at hkc
     rw [← hK] at hkc
     clear ho hnk HQT HQF HMX HB9 hK HPV HE6b HNK HMK
     obtain ⟨k0, k1, k2, k3⟩ := bxc4 HX9.out
     have kl := HX9.out.lt
     go_wp2_with fail
     refine hkc.mono ?_
     clear hkc
     rintro e w10 ⟨v, L, rfl, hL, hco⟩
     obtain ⟨la, lc, rfl⟩ := hco.own.shape
     have HFA := Lib.hid (HF9.out.below hco.below)
     have HOW := Lib.hid hco.own
     have HND := Lib.hid hco.nodes
     have hLK : L.length = K.length := by rw [← hL]; simp
     have HLK := Lib.hid hL
     rw [hLK] at HOW ⊢
     have HLN := Lib.hid hLK
     have HS9 : Hid (w.heap.size + 3 < W9.heap.size) := HF9.out.d.lt
     clear hL hco hLK HF9 HX9 k0 k1 k2 k3 kl HXN
     have hkl : K.length ≤ 100000 := HKL.out
     obtain ⟨n, hn⟩ : ∃ n, n = K.length := ⟨_, rfl⟩
     have HNK := Lib.hid hn
     rw [← hn] at HOW ⊢ hkl HLN HN
     clear hn
     go_upto_if 77 with fail
     go_cut [] from 75 to 79 (fun wx => Hid (Frm3 (w.heap.size + 2) (stp s6b (bigE n (sl bProject bProperties))) w w.heap.size [.string (bs t.name), .slice ao t.attrs.length ac, .slice ko t.kids.length kc, .string (bs t.text)] (w.heap.size + 1) [.bool false, .string ⟨#[]⟩, .string ⟨#[]⟩, .string ⟨#[]⟩, .string ⟨#[]⟩, .string ⟨#[]⟩, .string ⟨#[]⟩, .string ⟨#[]⟩, .slice none 0 0, .slice none 0 0, .slice none 0 0] (w.heap.size + 3) [.bool (parentV t).1, .string (parentV t).2.group, .string (parentV t).2.artifact, .string (parentV t).2.version, .string (bs (wordV t bGroup)), .string (bs (wordV t bArtifact)), .string (bs (wordV t bVersion)), .string (bs (wordV t bPackaging)), .slice none 0 0, .slice none 0 0, .slice none 0 0] wx ∧ w10.grownBy wx (some (w.heap.size + 2))))
     case first =>
      by_cases hb : 1024 < n
      · have hbI : (1024 : Int) < (n : Int) := by omega
        have HE : Hid (bigE n (sl bProject bProperties) = some (2, sl bProject bProperties)) := if_pos hb
        clear hb
        go_wp2_with fail
        refine (failR_some (w.heap.size + 2) s6b (2, sl bProject bProperties) _ w10 HFA.out.r rfl).mono ?_
        rintro e w11 ⟨rfl, hr, hg⟩
        have HF11 := Lib.hid (HFA.out.call hr hg)
        have HG11 := Lib.hid hg
        clear hr hg
        go_wp2
        go_meet
        case rel => exact ⟨by rw [HE.out]; exact HF11.out, HG11.out⟩
      · have hbI : ¬ (1024 : Int) < (n : Int) := by omega
        have HE : Hid (bigE n (sl bProject bProperties) = none) := if_neg hb
        clear hb
        go_wp2
        go_meet
        case rel => exact ⟨by rw [HE.out]; exact HFA.out, World.grownBy.refl _ _⟩
     case rest =>
      obtain ⟨wq, rfl⟩ : ∃ wq : World, wq = wc := ⟨_, rfl⟩
      obtain ⟨s9, hs9⟩ : ∃ q, q = stp s6b (bigE n (sl bProject bProperties)) := ⟨_, rfl⟩
      rw [← hs9] at hcut
      have HS9L : Hid (s7 = stp s9 (propsEgo (sl bProject bProperties) K [])) := by show _ = _; rw [HN.out, ← stp_or (big_nz _ _), ← hs9]
      have HFQ := Lib.hid hcut.out.1
      have HKS : Hid (SliceX 4 trC (fun j => j = (w.heap.size + 2) ∨ j = w.heap.size + 3) wq (.slice la n lc) L) := ((HOW.out.keptR hcut.out.2 (by have := HS9.out; omega)).toX trC_len (fun g hg hx => by have := (HOW.out.lt g hg).1; have := HS9.out; omega))
      have HKN : Hid (∀ y ∈ L, NodeX (fun j => j = (w.heap.size + 2) ∨ j = w.heap.size + 3) wq y.1 y.2.1 y.2.2) := fun y hy => ((HND.out y hy).gr hcut.out.2 (.inl HRX.out)).keep (KeptX.refl _ _) (fun j _ h => .inl (by omega))
      have HQ9 : Hid (w.heap.size + 3 < wq.heap.size) := HFQ.out.d.lt
      have HCP : Hid (n ≤ lc) := by
       have h1 := HOW.out.slice trC_len
       obtain ⟨ao2, cap2, e, h2, -⟩ := h1
       cases e
       have := HLN.out
       show _ ≤ _
       omega
      clear hcut HOW HND HFA hs9 HS9 HN
      go_wp2
      go_loopw [82] (fun iv wr => ∃ (i : Nat) (st : St) (pa : Option Addr) (pc : Nat), i ≤ n ∧ iv = .int .i64 i ∧ Hid (PrB (w.heap.size + 2) st w w.heap.size [.string (bs t.name), .slice ao t.attrs.length ac, .slice ko t.kids.length kc, .string (bs t.text)] (w.heap.size + 1) [.bool false, .string ⟨#[]⟩, .string ⟨#[]⟩, .string ⟨#[]⟩, .string ⟨#[]⟩, .string ⟨#[]⟩, .string ⟨#[]⟩, .string ⟨#[]⟩, .slice none 0 0, .slice none 0 0, .slice none 0 0] (w.heap.size + 3) [.bool (parentV t).1, .string (parentV t).2.group, .string (parentV t).2.artifact, .string (parentV t).2.version, .string (bs (wordV t bGroup)), .string (bs (wordV t bArtifact)), .string (bs (wordV t bVersion)), .string (bs (wordV t bPackaging)), .slice pa i pc, .slice none 0 0, .slice none 0 0] wq (.slice pa i pc) ((K.take i).map prpV) wr ∧ s7 = stp st (propsEgo (sl bProject bProperties) (K.drop i) (K.take i)))) (fun iv _ => n - (intOf iv).toNat)
      case atStart => exact ⟨0, s9, none, 0, Nat.zero_le _, rfl, ⟨HFQ.out, Owns.nil, KeptX.refl _ _⟩, HS9L.out⟩
      case round =>
       obtain ⟨i, st, pa, pc, hi, rfl, HR⟩ := hrel
       clear HFQ HS9L
       by_cases hlt : i < n
       rotate_left
       · obtain rfl : i = n := by omega
         have HSE : Hid (s7 = st) := by show _ = _; rw [HR.out.2, HNK.out, List.drop_length]; rfl
         have HVE : Hid (propsV t = (K.take i).map prpV) := by show _ = _; rw [HPF.out, HNK.out, List.take_length]
         go_wp2
         go_meet
         case rel => exact ⟨pa, i, pc, by rw [HSE.out]; exact HR.out.1.f, by rw [HVE.out]; exact HR.out.1.row.base_mono (by have := HQ9.out; omega)⟩
       · have hlI : (i : Int) < (n : Int) := by omega
         have hic : (i : Int) ≤ (lc : Int) := by have := HCP.out; omega
         have hiL : i < L.length := by have := HLN.out; omega
         have hiK : i < K.length := by have := HNK.out; omega
         have hyk : K[i]'hiK = (L[i]'hiL).1 := by simp only [← HLK.out, List.getElem_map]
         have HTK : Hid (K.take (i + 1) = K.take i ++ [(L[i]'hiL).1]) := by show _ = _; rw [List.take_succ_eq_append_getElem hiK, hyk]
         have HEK : Hid (s7 = stp st ((dupE (K.take i) (L[i]'hiL).1.name).or ((textE (L[i]'hiL).1 (sl (sl bProject bProperties) (L[i]'hiL).1.name) true).or (propsEgo (sl bProject bProperties) (K.drop (i + 1)) (K.take (i + 1)))))) := by show _ = _; rw [HR.out.2, propsEgo_at hiK, hyk]; rfl
         have HMY := Lib.hid (HKM.out (L[i]'hiL).1 (by rw [← hyk]; exact List.getElem_mem hiK))
         have HLT := Lib.hid hlt
         have HIB : Hid (i ≤ 100000) := by show _ ≤ _; omega
         have HLL : Hid (((K.take i).map prpV).length = i) := by show _ = _; have := HNK.out; rw [List.length_map, List.length_take]; omega
         obtain ⟨g, o, q1, q2, q3, q4, hla, hg, c0, c1, c2, c3, hn⟩ := nodesQ (X := fun j => j = w.heap.size + 2 ∨ j = w.heap.size + 3) ((HKS.out.keep HR.out.1.kq (fun _ _ h => h)).slice) (fun y hy => (HKN.out y hy).keep HR.out.1.kq (fun _ _ h => h)) i hiL
         subst hla
         have HNN := Lib.hid hn
         clear hn hyk hiK
         generalize L[i] = y at c0 c1 c2 c3 HNN HTK HEK HMY
         obtain ⟨t1, ya, yk⟩ := y
         simp only at c0 c1 c2 c3 HNN HTK HEK HMY
         clear hiL
         obtain ⟨kn, hkn⟩ : ∃ x, x = bs t1.name := ⟨_, rfl⟩
         obtain ⟨kx, hkx⟩ : ∃ x, x = bs t1.text := ⟨_, rfl⟩
         have HKE : Hid (kn = bs t1.name ∧ kx = bs t1.text) := ⟨hkn, hkx⟩
         rw [← hkn] at c0
         rw [← hkx] at c3
         have hkz : kn.size ≤ 1000000000 := by rw [hkn, bs_size]; exact HMY.out.2
         have HZ1 : Hid (¬ 9223372036854775807 < 19 + kn.size) := by show ¬ _; omega
         have HZ2 : Hid (¬ 9223372036854775807 < 19 + kn.size + 3) := by show ¬ _; omega
         clear hkn hkx hkz
         generalize t1.attrs.length = l1 at *
         generalize t1.kids.length = l3 at *
         go_upto_region 23 with fail
         refine wp_world ?_
         intro W1 hW1
         have x1 : Box W1 wr.heap.size [.string kn, .slice q1 l1 q2, .slice q3 l3 q4, .string kx] := by rw [hW1]; exact Box.new wr [.string kn, .slice q1 l1 q2, .slice q3 l3 q4, .string kx] _ _ rfl
         have hb1 : Below wr.heap.size wr W1 := by rw [hW1]; exact (Below.refl _ _).alloc (Nat.le_refl _) _
         clear hW1 c0 c1 c2 c3 hg
         have HRK : Hid (∀ g, (Value.slice pa i pc).ownBlock = some g → g ≠ wr.heap.size) := fun g e => by have := (HR.out.1.row.lt g e).2; omega
         have HA1 : Hid (PrA (w.heap.size + 2) st w w.heap.size [.string (bs t.name), .slice ao t.attrs.length ac, .slice ko t.kids.length kc, .string (bs t.text)] (w.heap.size + 1) [.bool false, .string ⟨#[]⟩, .string ⟨#[]⟩, .string ⟨#[]⟩, .string ⟨#[]⟩, .string ⟨#[]⟩, .string ⟨#[]⟩, .string ⟨#[]⟩, .slice none 0 0, .slice none 0 0, .slice none 0 0] (w.heap.size + 3) [.bool (parentV t).1, .string (parentV t).2.group, .string (parentV t).2.artifact, .string (parentV t).2.version, .string (bs (wordV t bGroup)), .string (bs (wordV t bArtifact)), .string (bs (wordV t bVersion)), .string (bs (wordV t bPackaging)), .slice pa i pc, .slice none 0 0, .slice none 0 0] wq (.slice pa i pc) ((K.take i).map prpV) wr.heap.size [.string kn, .slice q1 l1 q2, .slice q3 l3 q4, .string kx] W1) :=
          ⟨HR.out.1.f.below hb1, HR.out.1.row.below hb1, HR.out.1.kq.trans (KeptX.below hb1), x1, by
           have h1 := HR.out.1.f.r.lt
           have h2 := HR.out.1.f.d.lt
           have h3 := HQ9.out
           exact ⟨by omega, by omega, by omega, by omega, by omega, by omega, by omega⟩⟩
         have HN1 := Lib.hid (HNN.out.later hb1)
         clear x1 hb1 HR HNN
         obtain ⟨wo, rfl⟩ : ∃ wo : World, wo = wr := ⟨_, rfl⟩
         go_wp2
         go_loopw [91] (fun jv wx => ∃ (j : Nat), j ≤ i ∧ jv = .int .i64 j ∧ Hid (PrA (w.heap.size + 2) (stp st (dupE (K.take j) t1.name)) w w.heap.size [.string (bs t.name), .slice ao t.attrs.length ac, .slice ko t.kids.length kc, .string (bs t.text)] (w.heap.size + 1) [.bool false, .string ⟨#[]⟩, .string ⟨#[]⟩, .string ⟨#[]⟩, .string ⟨#[]⟩, .string ⟨#[]⟩, .string ⟨#[]⟩, .string ⟨#[]⟩, .slice none 0 0, .slice none 0 0, .slice none 0 0] (w.heap.size + 3) [.bool (parentV t).1, .string (parentV t).2.group, .string (parentV t).2.artifact, .string (parentV t).2.version, .string (bs (wordV t bGroup)), .string (bs (wordV t bArtifact)), .string (bs (wordV t bVersion)), .string (bs (wordV t bPackaging)), .slice pa i pc, .slice none 0 0, .slice none 0 0] wq (.slice pa i pc) ((K.take i).map prpV) wo.heap.size [.string kn, .slice q1 l1 q2, .slice q3 l3 q4, .string kx] wx ∧ NodeX (fun j => j = w.heap.size + 2 ∨ j = w.heap.size + 3) wx t1 (.slice q1 l1 q2) (.slice q3 l3 q4))) (fun jv _ => i - (intOf jv).toNat)
         case atStart => exact ⟨0, Nat.zero_le _, rfl, HA1.out, HN1.out⟩
         case round =>
          obtain ⟨j, hj, rfl, HJ⟩ := hrel
          clear HA1 HN1
          by_cases hjl : j < i
          · have hjI : (j : Int) < (i : Int) := by omega
            have hjL : j < L.length := by have := HLN.out; omega
            have hjK : j < K.length := by have := HNK.out; omega
            have hyk : K[j]'hjK = (L[j]'hjL).1 := by simp only [← HLK.out, List.getElem_map]
            have HTJ : Hid (K.take (j + 1) = K.take j ++ [(L[j]'hjL).1]) := by show _ = _; rw [List.take_succ_eq_append_getElem hjK, hyk]
            have HJL := Lib.hid hjl
            obtain ⟨g2, o2, r1, r2, r3, r4, hla, hg2, c0, c1, c2, c3, -⟩ := nodesQ (X := fun j => j = w.heap.size + 2 ∨ j = w.heap.size + 3) ((HKS.out.keep HJ.out.1.kq (fun _ _ h => h)).slice) (fun y hy => (HKN.out y hy).keep HJ.out.1.kq (fun _ _ h => h)) j hjL
            simp only [Option.some.injEq, Addr.mk.injEq, and_true] at hla
            obtain ⟨rfl, rfl⟩ := hla
            have h2 := bs_beq2 (L[j]'hjL).1.name t1.name
            rw [← HKE.out.1] at h2
            clear hyk hjK
            generalize L[j] = y at c0 c1 c2 c3 HTJ h2
            obtain ⟨t2, ya2, yk2⟩ := y
            simp only at c0 c1 c2 c3 HTJ h2
            clear hjL
            obtain ⟨q5, hq5⟩ : ∃ q, q = decide (t2.name = t1.name) := ⟨_, rfl⟩
            rw [← hq5] at h2
            have HQ5 : Hid ((q5 = true → t2.name = t1.name) ∧ (q5 = false → t2.name ≠ t1.name)) := ⟨fun h => by rw [h] at hq5; exact of_decide_eq_true hq5.symm, fun h => by rw [h] at hq5; exact of_decide_eq_false hq5.symm⟩
            clear hq5
            generalize bs t2.name = n2 at *
            generalize bs t2.text = x2 at *
            generalize t2.attrs.length = m1 at *
            generalize t2.kids.length = m3 at *
            go_upto_region 26 with fail
            refine wp_world ?_
            intro W2 hW2
            have x3 : Box W2 wr.heap.size [.string n2, .slice r1 m1 r2, .slice r3 m3 r4, .string x2] := by rw [hW2]; exact Box.new wr [.string n2, .slice r1 m1 r2, .slice r3 m3 r4, .string x2] _ _ rfl
            have hb2 : Below wr.heap.size wr W2 := by rw [hW2]; exact (Below.refl _ _).alloc (Nat.le_refl _) _
            clear hW2 c0 c1 c2 c3 hg2
            have HJ2 := Lib.hid (HJ.out.1.later hb2)
            have HN2 := Lib.hid (HJ.out.2.later hb2)
            have e0 := x3.cell 0 _ rfl
            have el := x3.lt
            have k0 := HJ2.out.k.cell 0 _ rfl
            have kl := HJ2.out.k.lt
            clear x3 hb2 HJ
            cases q5 with
            | true =>
             have HPT : Hid (⟨#[112, 114, 111, 106, 101, 99, 116, 47, 112, 114, 111, 112, 101, 114, 116, 105, 101, 115, 47]⟩ ++ kn ++ ⟨#[91, 50, 93]⟩ = bs (two (sl (sl bProject bProperties) t1.name))) := by
              show _ = _
              rw [HKE.out.1]
              show bs (bProject ++ 47 :: bProperties ++ [47]) ++ bs t1.name ++ bs [91, 50, 93] = _
              rw [bs_append, bs_append]
              unfold two sl
              simp
             have HDY := Lib.hid (dup_yes (s := st) (l := K.take j) (HQ5.out.1 rfl))
             have hz1 := HZ1.out
             have hz2 := HZ2.out
             go_wp2_with fail
             refine (failR_some (w.heap.size + 2) (stp st (dupE (K.take j) t1.name)) (20, two (sl (sl bProject bProperties) t1.name)) _ _ HJ2.out.f.r HPT.out).mono ?_
             rintro e w4 ⟨rfl, hr, hg⟩
             rw [HDY.out, ← HTJ.out] at hr
             have HJ3 := Lib.hid (HJ2.out.call hr hg)
             have HN3 := Lib.hid (HN2.out.gr hg (.inl rfl))
             clear hr hg HJ2 HN2 e0 el k0 kl
             go_wp2
             go_roundw
             case rel => exact ⟨j + 1, HJL.out, by go_num, HJ3.out, HN3.out⟩
             case measure => simp [intOf]; have := HJL.out; omega
            | false =>
             have HDN := Lib.hid (dup_no (l := K.take j) (HQ5.out.2 rfl))
             go_wp2
             go_roundw
             case rel => exact ⟨j + 1, HJL.out, by go_num, by rw [HTJ.out, HDN.out]; exact HJ2.out, HN2.out⟩
             case measure => simp [intOf]; have := HJL.out; omega
          · obtain rfl : j = i := by omega
            obtain ⟨sA, hsA⟩ : ∃ q, q = stp st (dupE (K.take j) t1.name) := ⟨_, rfl⟩
            obtain ⟨sB, hsB⟩ : ∃ q, q = stp sA (textE t1 (sl (sl bProject bProperties) t1.name) true) := ⟨_, rfl⟩
            have HEK2 : Hid (s7 = stp sB (propsEgo (sl bProject bProperties) (K.drop (j + 1)) (K.take (j + 1)))) := by show _ = _; rw [HEK.out, ← stp_or (dupE_nz _ _), ← hsA, ← stp_or (textE_nz _ _ _), ← hsB]
            obtain ⟨tv, htv⟩ : ∃ x, x = bs (textV t1) := ⟨_, rfl⟩
            obtain ⟨ps, hps⟩ : ∃ x, x = (K.take j).map prpV := ⟨_, rfl⟩
            have HDS : Hid ((K.take (j + 1)).map prpV = ps ++ [(⟨kn, tv⟩ : Prp)]) := by show _ = _; rw [HTK.out, List.map_append, hps, HKE.out.1, htv]; rfl
            rw [← hsA, ← hps] at HJ
            rw [← hps] at HLL
            have HPA0 : Hid (PrA (w.heap.size + 1 + 1) sA w w.heap.size [.string (bs t.name), .slice ao t.attrs.length ac, .slice ko t.kids.length kc, .string (bs t.text)] (w.heap.size + 1) [.bool false, .string ⟨#[]⟩, .string ⟨#[]⟩, .string ⟨#[]⟩, .string ⟨#[]⟩, .string ⟨#[]⟩, .string ⟨#[]⟩, .string ⟨#[]⟩, .slice none 0 0, .slice none 0 0, .slice none 0 0] (w.heap.size + 1 + 1 + 1) [.bool (parentV t).1, .string (parentV t).2.group, .string (parentV t).2.artifact, .string (parentV t).2.version, .string (bs (wordV t bGroup)), .string (bs (wordV t bArtifact)), .string (bs (wordV t bVersion)), .string (bs (wordV t bPackaging)), .slice pa j pc, .slice none 0 0, .slice none 0 0] wq (.slice pa j pc) ps wo.heap.size [.string kn, .slice q1 l1 q2, .slice q3 l3 q4, .string kx] wr) := HJ.out.1
            have HNV := Lib.hid HJ.out.2
            have HYA : Hid (⟨#[112, 114, 111, 106, 101, 99, 116, 47, 112, 114, 111, 112, 101, 114, 116, 105, 101, 115, 47]⟩ ++ kn = bs (sl (sl bProject bProperties) t1.name)) := by
             show _ = _
             rw [HKE.out.1]
             show bs (bProject ++ 47 :: bProperties ++ [47]) ++ bs t1.name = _
             rw [bs_append]
             unfold sl
             simp
            have HTX : Hid (∀ W, Below wr.heap.size wr W → Calls Tryz.prog 46 #[.pointer (some ⟨w.heap.size + 1 + 1, 0, none⟩), .agg #[.string kn, .slice q1 l1 q2, .slice q3 l3 q4, .string kx], .string (⟨#[112, 114, 111, 106, 101, 99, 116, 47, 112, 114, 111, 112, 101, 114, 116, 105, 101, 115, 47]⟩ ++ kn), .bool true] W fun e w1 => e = .returned (.string tv) ∧ Box w1 (w.heap.size + 1 + 1) [.int .i64 sB.1, .string sB.2] ∧ W.grownBy w1 (some (w.heap.size + 1 + 1))) := fun W hW => by
             have h1 := textR_any (w.heap.size + 1 + 1) sA _ t1 (sl (sl bProject bProperties) t1.name) true W _ _ (HNV.out.later hW) (HPA0.out.f.r.below hW HPA0.out.f.r.lt) HMY.out.1.kl HMY.out.1.txt
             unfold nodeV at h1
             rw [← HYA.out, ← HKE.out.1, ← HKE.out.2, ← hsB, ← htv] at h1
             exact h1
            have HDC : Hid (([.bool (parentV t).1, .string (parentV t).2.group, .string (parentV t).2.artifact, .string (parentV t).2.version, .string (bs (wordV t bGroup)), .string (bs (wordV t bArtifact)), .string (bs (wordV t bVersion)), .string (bs (wordV t bPackaging)), .slice pa j pc, .slice none 0 0, .slice none 0 0] : List Value)[8]? = some (.slice pa j pc)) := rfl
            have HNE : Hid (w.heap.size + 1 + 1 + 1 ≠ w.heap.size + 1 + 1 ∧ wo.heap.size ≠ w.heap.size + 1 + 1) := ⟨by omega, HPA0.out.ne.1⟩
            have HPQ : Hid (w.heap.size + 1 + 1 + 1 < wq.heap.size) := HQ9.out
            have HBK : Hid (∀ w' w1, PrA (w.heap.size + 1 + 1) sB w w.heap.size [.string (bs t.name), .slice ao t.attrs.length ac, .slice ko t.kids.length kc, .string (bs t.text)] (w.heap.size + 1) [.bool false, .string ⟨#[]⟩, .string ⟨#[]⟩, .string ⟨#[]⟩, .string ⟨#[]⟩, .string ⟨#[]⟩, .string ⟨#[]⟩, .string ⟨#[]⟩, .slice none 0 0, .slice none 0 0, .slice none 0 0] (w.heap.size + 1 + 1 + 1) [.bool (parentV t).1, .string (parentV t).2.group, .string (parentV t).2.artifact, .string (parentV t).2.version, .string (bs (wordV t bGroup)), .string (bs (wordV t bArtifact)), .string (bs (wordV t bVersion)), .string (bs (wordV t bPackaging)), .slice pa j pc, .slice none 0 0, .slice none 0 0] wq (.slice pa j pc) ps wo.heap.size [.string kn, .slice q1 l1 q2, .slice q3 l3 q4, .string kx] w' → w'.grownBy w1 (Value.slice pa j pc).ownBlock → Box w1 wo.heap.size [.string kn, .slice q1 l1 q2, .slice q3 l3 q4, .string kx]) := fun w' w1 h hg => h.k.grown hg (fun e => HRK.out _ e.symm rfl)
            clear HJ hsA hsB htv hps HEK hjl hj
            go_upto_region 29 with fail
            refine wp_region_flags0 (prJ (w.heap.size + 1 + 1) (w.heap.size + 1 + 1 + 1) wo.heap.size sA sB w wq [.string (bs t.name), .slice ao t.attrs.length ac, .slice ko t.kids.length kc, .string (bs t.text)] [.bool false, .string ⟨#[]⟩, .string ⟨#[]⟩, .string ⟨#[]⟩, .string ⟨#[]⟩, .string ⟨#[]⟩, .string ⟨#[]⟩, .string ⟨#[]⟩, .slice none 0 0, .slice none 0 0, .slice none 0 0] [.bool (parentV t).1, .string (parentV t).2.group, .string (parentV t).2.artifact, .string (parentV t).2.version, .string (bs (wordV t bGroup)), .string (bs (wordV t bArtifact)), .string (bs (wordV t bVersion)), .string (bs (wordV t bPackaging)), .slice pa j pc, .slice none 0 0, .slice none 0 0] kn kx tv q1 q3 l1 q2 l3 q4 pa j pc ps wr _ _ _ _ _ _ _ _ _ _ _ _ _ _ _ _ _ _ _ _ _ _ _ _ _ _ _ _ _ _ _ _ _ _ _ _ _ _ _ _ _ _ _ _ _ _ _ _ _ _ _ _ _ _ _ _ _ _ _ _ _ _ _ _ _ _ _ _ _ _ _ _ _ _ _ _ _ _ _ _ _ _ _ _ _ _ _ _ _ _ _ _ _ _ _ _ _ _ _ _ _ _ _ _ _ _ _ _ _ _ _ _ _ _ _ _ _ _ _ _ _ _ _ _ _ _ _ _ _ _ _ _ _ _ _ _ _ _ _ _ _ _ _ _ _ _ _ _ _ _ _ _) (by kernel_rfl) 15 rfl (by kernel_rfl) (prJ.at false false false false false false false false false false false false false false false (0) (none) (0) rfl (by unfold prUpd; rfl) ?i0 ?i1 ?i2 ?i3 ?i4 ?i5 ?i6 ?i7 ?i8 ?i9 ?i10 ?i11 ?i12 ?i13 ?i14 ?i15 ?i16) ?fin ?step
            case i0 => exact Lib.hid (by simp)
            case i1 => exact Lib.hid (by simp)
            case i2 => exact Lib.hid (by simp)
            case i3 => exact Lib.hid (by simp)
            case i4 => exact Lib.hid (by simp)
            case i5 => exact Lib.hid (by simp)
            case i6 => exact Lib.hid (by simp)
            case i7 => exact Lib.hid (by simp)
            case i8 => exact Lib.hid (by simp)
            case i9 => exact fun h0 => belowN (Below.refl _ _) 1
            case i10 => exact fun _ => (HPA0.out.f.d).drewN 1
            case i11 => exact fun _ => (HPA0.out.k).drewN 1
            case i12 => exact fun _ => HPA0.out.later (belowN (Below.refl _ _) 1)
            case i13 => exact by simp
            case i14 => exact by simp
            case i15 => exact by simp
            case i16 => exact by simp
            case fin =>
             intro a' w' hJ
             generalize hl : Array.replicate 15 true = Lz at hJ
             cases hJ with
             | mk f0 f1 f2 f3 f4 f5 f6 f7 f8 f9 f10 f11 f12 f13 f14 H1 a8 c8 _ ch1 ch3 ch7 ch8 ch9 ch10 ch11 ch12 ch14 hB bp bk fa fb r118 fc fd =>
              have hl' : [true, true, true, true, true, true, true, true, true, true, true, true, true, true, true] = [f0, f1, f2, f3, f4, f5, f6, f7, f8, f9, f10, f11, f12, f13, f14] := congrArg Array.toList hl
              simp only [List.cons.injEq, and_true] at hl'
              obtain ⟨rfl, rfl, rfl, rfl, rfl, rfl, rfl, rfl, rfl, rfl, rfl, rfl, rfl, rfl, rfl⟩ := hl'
              clear hl
              unfold prUpd
              simp only [cond_true]
              have HFD := Lib.hid (fd rfl)
              clear ch1 ch3 ch7 ch8 ch9 ch10 ch11 ch12 ch14 hB bp bk fa fb r118 fc fd
              go_wp2
              go_roundw
              case rel => exact ⟨j + 1, sB, a8, c8, HLT.out, by go_num, by rw [HDS.out]; exact HFD.out, HEK2.out⟩
              case measure => simp [intOf]; have := HLT.out; omega
            case step =>
             intro listed a' w' hJ i hi
             cases hJ with
             | mk f0 f1 f2 f3 f4 f5 f6 f7 f8 f9 f10 f11 f12 f13 f14 H1 a8 c8 _ ch1 ch3 ch7 ch8 ch9 ch10 ch11 ch12 ch14 hB bp bk fa fb r118 fc fd =>
              rw [mem_ready] at hi
              obtain ⟨hu, o, ho, ha⟩ := hi
              have hi8 : i < 15 := (Array.getElem?_eq_some_iff.1 ho).1
              rcases (by omega : i = 0 ∨ i = 1 ∨ i = 2 ∨ i = 3 ∨ i = 4 ∨ i = 5 ∨ i = 6 ∨ i = 7 ∨ i = 8 ∨ i = 9 ∨ i = 10 ∨ i = 11 ∨ i = 12 ∨ i = 13 ∨ i = 14) with rfl | rfl | rfl | rfl | rfl | rfl | rfl | rfl | rfl | rfl | rfl | rfl | rfl | rfl | rfl
              · have ho' := ho
                simp at hu ho
                subst hu ho
                clear ha
                have e1 : f1 = false := Bool.eq_false_iff.2 fun h => Bool.false_ne_true ((ch1.out h))
                have e12 : f12 = false := Bool.eq_false_iff.2 fun h => Bool.false_ne_true ((ch1.out (ch12.out h).1))
                have e14 : f14 = false := Bool.eq_false_iff.2 fun h => Bool.false_ne_true ((ch1.out (ch12.out (ch14.out h).1).1))
                subst e1 e12 e14
                refine .inl ?_
                unfold prUpd Oper.wp
                go_simp
                exact prJ.at true false f2 f3 f4 f5 f6 f7 f8 f9 f10 f11 false f13 false (H1) (a8) (c8) rfl rfl (Lib.hid (by simp)) (ch3) (ch7) (ch8) (ch9) (ch10) (ch11) (Lib.hid (by simp)) (Lib.hid (by simp)) (hB) (bp) (bk) (fa) (fb) (r118) (by simp) (by simp)
              · have ho' := ho
                simp at hu ho
                subst hu ho
                simp [Region.binds] at ha
                obtain rfl : f0 = true := by simp only [ha]
                clear ha
                have e12 : f12 = false := Bool.eq_false_iff.2 fun h => Bool.false_ne_true ((ch12.out h).1)
                have e14 : f14 = false := Bool.eq_false_iff.2 fun h => Bool.false_ne_true ((ch12.out (ch14.out h).1).1)
                subst e12 e14
                have c8x := (bp rfl).cell 8 _ HDC.out
                have cl := (bp rfl).lt
                refine .inl ?_
                unfold prUpd Oper.wp
                go_simp
                exact prJ.at true true f2 f3 f4 f5 f6 f7 f8 f9 f10 f11 false f13 false (H1) (a8) (c8) rfl rfl (Lib.hid (by simp)) (ch3) (ch7) (ch8) (ch9) (ch10) (ch11) (Lib.hid (by simp)) (Lib.hid (by simp)) (hB) (bp) (bk) (fa) (fb) (r118) (by simp) (by simp)
              · have ho' := ho
                simp at hu ho
                subst hu ho
                clear ha
                have e3 : f3 = false := Bool.eq_false_iff.2 fun h => Bool.false_ne_true ((ch3.out h))
                have e10 : f10 = false := Bool.eq_false_iff.2 fun h => Bool.false_ne_true ((ch3.out (ch10.out h).1))
                have e11 : f11 = false := Bool.eq_false_iff.2 fun h => Bool.false_ne_true ((ch3.out (ch10.out (ch11.out h)).1))
                have e12 : f12 = false := Bool.eq_false_iff.2 fun h => Bool.false_ne_true ((ch3.out (ch10.out (ch11.out (ch12.out h).2)).1))
                have e14 : f14 = false := Bool.eq_false_iff.2 fun h => Bool.false_ne_true ((ch3.out (ch10.out (ch11.out (ch12.out (ch14.out h).1).2)).1))
                subst e3 e10 e11 e12 e14
                refine .inl ?_
                unfold prUpd Oper.wp
                go_simp
                exact prJ.at f0 f1 true false f4 f5 f6 f7 f8 f9 false false false f13 false (H1) (a8) (c8) rfl rfl (ch1) (Lib.hid (by simp)) (ch7) (ch8) (ch9) (Lib.hid (by simp)) (Lib.hid (by simp)) (Lib.hid (by simp)) (Lib.hid (by simp)) (hB) (bp) (bk) (fa) (fb) (by simp) (by simp) (by simp)
              · have ho' := ho
                simp at hu ho
                subst hu ho
                simp [Region.binds] at ha
                obtain rfl : f2 = true := by simp only [ha]
                clear ha
                have e10 : f10 = false := Bool.eq_false_iff.2 fun h => Bool.false_ne_true ((ch10.out h).1)
                have e11 : f11 = false := Bool.eq_false_iff.2 fun h => Bool.false_ne_true ((ch10.out (ch11.out h)).1)
                have e12 : f12 = false := Bool.eq_false_iff.2 fun h => Bool.false_ne_true ((ch10.out (ch11.out (ch12.out h).2)).1)
                have e14 : f14 = false := Bool.eq_false_iff.2 fun h => Bool.false_ne_true ((ch10.out (ch11.out (ch12.out (ch14.out h).1).2)).1)
                subst e10 e11 e12 e14
                have hk := bk rfl
                have z0 := hk.cell 0 _ rfl
                have zl := hk.lt
                refine .inl ?_
                unfold prUpd Oper.wp
                go_simp
                exact prJ.at f0 f1 true true f4 f5 f6 f7 f8 f9 false false false f13 false (H1) (a8) (c8) rfl rfl (ch1) (Lib.hid (by simp)) (ch7) (ch8) (ch9) (Lib.hid (by simp)) (Lib.hid (by simp)) (Lib.hid (by simp)) (Lib.hid (by simp)) (hB) (bp) (bk) (fa) (fb) (by simp) (by simp) (by simp)
              · have ho' := ho
                simp at hu ho
                subst hu ho
                clear ha
                have e9 : f9 = false := Bool.eq_false_iff.2 fun h => Bool.false_ne_true ((ch9.out h).1)
                have e10 : f10 = false := Bool.eq_false_iff.2 fun h => Bool.false_ne_true ((ch9.out (ch10.out h).2).1)
                have e11 : f11 = false := Bool.eq_false_iff.2 fun h => Bool.false_ne_true ((ch9.out (ch10.out (ch11.out h)).2).1)
                have e12 : f12 = false := Bool.eq_false_iff.2 fun h => Bool.false_ne_true ((ch9.out (ch10.out (ch11.out (ch12.out h).2)).2).1)
                have e14 : f14 = false := Bool.eq_false_iff.2 fun h => Bool.false_ne_true ((ch9.out (ch10.out (ch11.out (ch12.out (ch14.out h).1).2)).2).1)
                subst e9 e10 e11 e12 e14
                refine .inl ?_
                unfold prUpd Oper.wp
                go_simp
                exact prJ.at f0 f1 f2 f3 true f5 f6 f7 f8 false false false false f13 false (H1) (a8) (c8) rfl rfl (ch1) (ch3) (ch7) (ch8) (Lib.hid (by simp)) (Lib.hid (by simp)) (Lib.hid (by simp)) (Lib.hid (by simp)) (Lib.hid (by simp)) (hB) (bp) (bk) (fa) (by simp) (by simp) (by simp) (by simp)
              · have ho' := ho
                simp at hu ho
                subst hu ho
                clear ha
                have e9 : f9 = false := Bool.eq_false_iff.2 fun h => Bool.false_ne_true ((ch9.out h).2.1)
                have e10 : f10 = false := Bool.eq_false_iff.2 fun h => Bool.false_ne_true ((ch9.out (ch10.out h).2).2.1)
                have e11 : f11 = false := Bool.eq_false_iff.2 fun h => Bool.false_ne_true ((ch9.out (ch10.out (ch11.out h)).2).2.1)
                have e12 : f12 = false := Bool.eq_false_iff.2 fun h => Bool.false_ne_true ((ch9.out (ch10.out (ch11.out (ch12.out h).2)).2).2.1)
                have e14 : f14 = false := Bool.eq_false_iff.2 fun h => Bool.false_ne_true ((ch9.out (ch10.out (ch11.out (ch12.out (ch14.out h).1).2)).2).2.1)
                subst e9 e10 e11 e12 e14
                have hk := bk rfl
                obtain ⟨z0, z1, z2, z3⟩ := bxc4 hk
                have zl := hk.lt
                refine .inl ?_
                unfold prUpd Oper.wp
                go_simp
                exact prJ.at f0 f1 f2 f3 f4 true f6 f7 f8 false false false false f13 false (H1) (a8) (c8) rfl rfl (ch1) (ch3) (ch7) (ch8) (Lib.hid (by simp)) (Lib.hid (by simp)) (Lib.hid (by simp)) (Lib.hid (by simp)) (Lib.hid (by simp)) (hB) (bp) (bk) (fa) (by simp) (by simp) (by simp) (by simp)
              · have ho' := ho
                simp at hu ho
                subst hu ho
                clear ha
                have e7 : f7 = false := Bool.eq_false_iff.2 fun h => Bool.false_ne_true ((ch7.out h))
                have e8 : f8 = false := Bool.eq_false_iff.2 fun h => Bool.false_ne_true ((ch7.out (ch8.out h)))
                have e9 : f9 = false := Bool.eq_false_iff.2 fun h => Bool.false_ne_true ((ch7.out (ch8.out (ch9.out h).2.2)))
                have e10 : f10 = false := Bool.eq_false_iff.2 fun h => Bool.false_ne_true ((ch7.out (ch8.out (ch9.out (ch10.out h).2).2.2)))
                have e11 : f11 = false := Bool.eq_false_iff.2 fun h => Bool.false_ne_true ((ch7.out (ch8.out (ch9.out (ch10.out (ch11.out h)).2).2.2)))
                have e12 : f12 = false := Bool.eq_false_iff.2 fun h => Bool.false_ne_true ((ch7.out (ch8.out (ch9.out (ch10.out (ch11.out (ch12.out h).2)).2).2.2)))
                have e14 : f14 = false := Bool.eq_false_iff.2 fun h => Bool.false_ne_true ((ch7.out (ch8.out (ch9.out (ch10.out (ch11.out (ch12.out (ch14.out h).1).2)).2).2.2)))
                subst e7 e8 e9 e10 e11 e12 e14
                refine .inl ?_
                unfold prUpd Oper.wp
                go_simp
                exact prJ.at f0 f1 f2 f3 f4 f5 true false false false false false false f13 false (H1) (a8) (c8) rfl rfl (ch1) (ch3) (Lib.hid (by simp)) (Lib.hid (by simp)) (Lib.hid (by simp)) (Lib.hid (by simp)) (Lib.hid (by simp)) (Lib.hid (by simp)) (Lib.hid (by simp)) (hB) (bp) (bk) (fa) (by simp) (by simp) (by simp) (by simp)
              · have ho' := ho
                simp at hu ho
                subst hu ho
                simp [Region.binds] at ha
                obtain rfl : f6 = true := by simp only [ha]
                clear ha
                have e8 : f8 = false := Bool.eq_false_iff.2 fun h => Bool.false_ne_true ((ch8.out h))
                have e9 : f9 = false := Bool.eq_false_iff.2 fun h => Bool.false_ne_true ((ch8.out (ch9.out h).2.2))
                have e10 : f10 = false := Bool.eq_false_iff.2 fun h => Bool.false_ne_true ((ch8.out (ch9.out (ch10.out h).2).2.2))
                have e11 : f11 = false := Bool.eq_false_iff.2 fun h => Bool.false_ne_true ((ch8.out (ch9.out (ch10.out (ch11.out h)).2).2.2))
                have e12 : f12 = false := Bool.eq_false_iff.2 fun h => Bool.false_ne_true ((ch8.out (ch9.out (ch10.out (ch11.out (ch12.out h).2)).2).2.2))
                have e14 : f14 = false := Bool.eq_false_iff.2 fun h => Bool.false_ne_true ((ch8.out (ch9.out (ch10.out (ch11.out (ch12.out (ch14.out h).1).2)).2).2.2))
                subst e8 e9 e10 e11 e12 e14
                have hk := bk rfl
                have z0 := hk.cell 0 _ rfl
                have zl := hk.lt
                refine .inl ?_
                unfold prUpd Oper.wp
                go_simp
                exact prJ.at f0 f1 f2 f3 f4 f5 true true false false false false false f13 false (H1) (a8) (c8) rfl rfl (ch1) (ch3) (Lib.hid (by simp)) (Lib.hid (by simp)) (Lib.hid (by simp)) (Lib.hid (by simp)) (Lib.hid (by simp)) (Lib.hid (by simp)) (Lib.hid (by simp)) (hB) (bp) (bk) (fa) (by simp) (by simp) (by simp) (by simp)
              · have ho' := ho
                simp at hu ho
                subst hu ho
                simp [Region.binds] at ha
                obtain rfl : f7 = true := by simp only [ha]
                clear ha
                obtain rfl : f6 = true := (ch7.out rfl)
                have e9 : f9 = false := Bool.eq_false_iff.2 fun h => Bool.false_ne_true ((ch9.out h).2.2)
                have e10 : f10 = false := Bool.eq_false_iff.2 fun h => Bool.false_ne_true ((ch9.out (ch10.out h).2).2.2)
                have e11 : f11 = false := Bool.eq_false_iff.2 fun h => Bool.false_ne_true ((ch9.out (ch10.out (ch11.out h)).2).2.2)
                have e12 : f12 = false := Bool.eq_false_iff.2 fun h => Bool.false_ne_true ((ch9.out (ch10.out (ch11.out (ch12.out h).2)).2).2.2)
                have e14 : f14 = false := Bool.eq_false_iff.2 fun h => Bool.false_ne_true ((ch9.out (ch10.out (ch11.out (ch12.out (ch14.out h).1).2)).2).2.2)
                subst e9 e10 e11 e12 e14
                have hz1 := HZ1.out
                refine .inl ?_
                unfold prUpd Oper.wp
                go_simp
                exact prJ.at f0 f1 f2 f3 f4 f5 true true true false false false false f13 false (H1) (a8) (c8) rfl rfl (ch1) (ch3) (Lib.hid (by simp)) (Lib.hid (by simp)) (Lib.hid (by simp)) (Lib.hid (by simp)) (Lib.hid (by simp)) (Lib.hid (by simp)) (Lib.hid (by simp)) (hB) (bp) (bk) (fa) (by simp) (by simp) (by simp) (by simp)
              · have ho' := ho
                simp at hu ho
                subst hu ho
                simp [Region.binds] at ha
                obtain rfl : f4 = true := by simp only [ha]
                obtain rfl : f5 = true := by simp only [ha]
                obtain rfl : f8 = true := by simp only [ha]
                clear ha
                obtain rfl : f7 = true := (ch8.out rfl)
                obtain rfl : f6 = true := (ch7.out (ch8.out rfl))
                have e10 : f10 = false := Bool.eq_false_iff.2 fun h => Bool.false_ne_true ((ch10.out h).2)
                have e11 : f11 = false := Bool.eq_false_iff.2 fun h => Bool.false_ne_true ((ch10.out (ch11.out h)).2)
                have e12 : f12 = false := Bool.eq_false_iff.2 fun h => Bool.false_ne_true ((ch10.out (ch11.out (ch12.out h).2)).2)
                have e14 : f14 = false := Bool.eq_false_iff.2 fun h => Bool.false_ne_true ((ch10.out (ch11.out (ch12.out (ch14.out h).1).2)).2)
                subst e10 e11 e12 e14
                have hB1 := hB rfl
                have hfa := fa rfl
                have hbp := bp rfl
                have hbk := bk rfl
                refine .inl ?_
                unfold prUpd Oper.wp
                go_simp
                refine (HTX.out w' hB1).mono ?_
                rintro e w1 ⟨rfl, hr, hg⟩
                exact prJ.at f0 f1 f2 f3 true true true true true true false false false f13 false (H1) (a8) (c8) rfl rfl (ch1) (ch3) (Lib.hid (by simp)) (Lib.hid (by simp)) (Lib.hid (by simp)) (Lib.hid (by simp)) (Lib.hid (by simp)) (Lib.hid (by simp)) (Lib.hid (by simp)) (by simp) (fun _ => hbp.gr hg HNE.out.1) (fun _ => hbk.gr hg HNE.out.2) (by simp) (fun _ _ => hfa.call hr hg) (by simp) (by simp) (by simp)
              · have ho' := ho
                simp at hu ho
                subst hu ho
                simp [Region.binds] at ha
                obtain rfl : f3 = true := by simp only [ha]
                obtain rfl : f9 = true := by simp only [ha]
                clear ha
                obtain rfl : f8 = true := (ch9.out rfl).2.2
                obtain rfl : f7 = true := (ch8.out (ch9.out rfl).2.2)
                obtain rfl : f6 = true := (ch7.out (ch8.out (ch9.out rfl).2.2))
                obtain rfl : f5 = true := (ch9.out rfl).2.1
                obtain rfl : f4 = true := (ch9.out rfl).1
                obtain rfl : f2 = true := (ch3.out rfl)
                have e11 : f11 = false := Bool.eq_false_iff.2 fun h => Bool.false_ne_true ((ch11.out h))
                have e12 : f12 = false := Bool.eq_false_iff.2 fun h => Bool.false_ne_true ((ch11.out (ch12.out h).2))
                have e14 : f14 = false := Bool.eq_false_iff.2 fun h => Bool.false_ne_true ((ch11.out (ch12.out (ch14.out h).1).2))
                subst e11 e12 e14
                refine .inl ?_
                unfold prUpd Oper.wp
                go_simp
                exact prJ.at f0 f1 true true true true true true true true true false false f13 false (H1) (a8) (c8) rfl rfl (ch1) (Lib.hid (by simp)) (Lib.hid (by simp)) (Lib.hid (by simp)) (Lib.hid (by simp)) (Lib.hid (by simp)) (Lib.hid (by simp)) (Lib.hid (by simp)) (Lib.hid (by simp)) (by simp) (bp) (bk) (by simp) (fb) (by simp) (by simp) (by simp)
              · have ho' := ho
                simp at hu ho
                subst hu ho
                simp [Region.binds] at ha
                obtain rfl : f10 = true := by simp only [ha]
                clear ha
                obtain rfl : f9 = true := (ch10.out rfl).2
                obtain rfl : f8 = true := (ch9.out (ch10.out rfl).2).2.2
                obtain rfl : f7 = true := (ch8.out (ch9.out (ch10.out rfl).2).2.2)
                obtain rfl : f6 = true := (ch7.out (ch8.out (ch9.out (ch10.out rfl).2).2.2))
                obtain rfl : f5 = true := (ch9.out (ch10.out rfl).2).2.1
                obtain rfl : f4 = true := (ch9.out (ch10.out rfl).2).1
                obtain rfl : f3 = true := (ch10.out rfl).1
                obtain rfl : f2 = true := (ch3.out (ch10.out rfl).1)
                have e12 : f12 = false := Bool.eq_false_iff.2 fun h => Bool.false_ne_true ((ch12.out h).2)
                have e14 : f14 = false := Bool.eq_false_iff.2 fun h => Bool.false_ne_true ((ch12.out (ch14.out h).1).2)
                subst e12 e14
                have hfb := fb rfl rfl
                have hbp := bp rfl
                have hbk := bk rfl
                have hal := fun o => (Below.refl w'.heap.size w').alloc (Nat.le_refl w'.heap.size) o
                refine .inl ?_
                unfold prUpd Oper.wp
                go_simp
                exact prJ.at f0 f1 true true true true true true true true true true false f13 false (w'.heap.size) (a8) (c8) rfl rfl (ch1) (Lib.hid (by simp)) (Lib.hid (by simp)) (Lib.hid (by simp)) (Lib.hid (by simp)) (Lib.hid (by simp)) (Lib.hid (by simp)) (Lib.hid (by simp)) (Lib.hid (by simp)) (by simp) (fun _ => hbp.below (hal _) hbp.lt) (fun _ => hbk.below (hal _) hbk.lt) (by simp) (fun _ _ => hfb.later (hal _)) (fun _ _ => prp_lit ⟨kn, tv⟩ w' _ rfl) (by simp) (by simp)
              · have ho' := ho
                simp at hu ho
                subst hu ho
                simp [Region.binds] at ha
                obtain rfl : f1 = true := by simp only [ha]
                obtain rfl : f11 = true := by simp only [ha]
                clear ha
                obtain rfl : f10 = true := (ch11.out rfl)
                obtain rfl : f9 = true := (ch10.out (ch11.out rfl)).2
                obtain rfl : f8 = true := (ch9.out (ch10.out (ch11.out rfl)).2).2.2
                obtain rfl : f7 = true := (ch8.out (ch9.out (ch10.out (ch11.out rfl)).2).2.2)
                obtain rfl : f6 = true := (ch7.out (ch8.out (ch9.out (ch10.out (ch11.out rfl)).2).2.2))
                obtain rfl : f5 = true := (ch9.out (ch10.out (ch11.out rfl)).2).2.1
                obtain rfl : f4 = true := (ch9.out (ch10.out (ch11.out rfl)).2).1
                obtain rfl : f3 = true := (ch10.out (ch11.out rfl)).1
                obtain rfl : f2 = true := (ch3.out (ch10.out (ch11.out rfl)).1)
                obtain rfl : f0 = true := (ch1.out rfl)
                have e14 : f14 = false := Bool.eq_false_iff.2 fun h => Bool.false_ne_true ((ch14.out h).1)
                subst e14
                have hfb := fb rfl rfl
                have h118 := r118 rfl rfl
                refine .inl ?_
                unfold prUpd
                refine wp_append_slice w' (.tmp 108) (.tmp 118) 30 rfl wq.heap.size 55 Tryz.underlying30 info_prpQ rfl (by decide) prpC_len2 (.slice pa j pc) ps (by simp [Act.eval]) hfb.row (.slice (some ⟨H1, 0, none⟩) 1 1) _ (by simp [Act.eval]) h118 (prpC_one2 _) (by have h1 := HLL.out; have := HIB.out; simp only [List.length_cons, List.length_nil]; omega) (by decide) hfb.kq.size ?_
                intro v1 w1 hown hg hloc
                obtain ⟨o1, n1, hv⟩ := hown.shape
                rw [List.length_append, HLL.out, List.length_singleton] at hv
                subst hv
                have hfc := hfb.grow hown hg
                exact prJ.at true true true true true true true true true true true true true f13 false (H1) (o1) (n1) rfl rfl (Lib.hid (by simp)) (Lib.hid (by simp)) (Lib.hid (by simp)) (Lib.hid (by simp)) (Lib.hid (by simp)) (Lib.hid (by simp)) (Lib.hid (by simp)) (Lib.hid (by simp)) (Lib.hid (by simp)) (by simp) (fun _ => hfc.f.d) (fun _ => HBK.out _ _ hfb hg) (by simp) (by simp) (by simp) (fun _ _ => hfc) (by simp)
              · have ho' := ho
                simp at hu ho
                subst hu ho
                clear ha
                have e14 : f14 = false := Bool.eq_false_iff.2 fun h => Bool.false_ne_true ((ch14.out h).2)
                subst e14
                refine .inl ?_
                unfold prUpd Oper.wp
                go_simp
                exact prJ.at f0 f1 f2 f3 f4 f5 f6 f7 f8 f9 f10 f11 f12 true false (H1) (a8) (c8) rfl rfl (ch1) (ch3) (ch7) (ch8) (ch9) (ch10) (ch11) (ch12) (Lib.hid (by simp)) (hB) (bp) (bk) (fa) (fb) (r118) (fc) (by simp)
              · have ho' := ho
                simp at hu ho
                subst hu ho
                simp [Region.binds] at ha
                obtain rfl : f12 = true := by simp only [ha]
                obtain rfl : f13 = true := by simp only [ha]
                clear ha
                obtain rfl : f11 = true := (ch12.out rfl).2
                obtain rfl : f10 = true := (ch11.out (ch12.out rfl).2)
                obtain rfl : f9 = true := (ch10.out (ch11.out (ch12.out rfl).2)).2
                obtain rfl : f8 = true := (ch9.out (ch10.out (ch11.out (ch12.out rfl).2)).2).2.2
                obtain rfl : f7 = true := (ch8.out (ch9.out (ch10.out (ch11.out (ch12.out rfl).2)).2).2.2)
                obtain rfl : f6 = true := (ch7.out (ch8.out (ch9.out (ch10.out (ch11.out (ch12.out rfl).2)).2).2.2))
                obtain rfl : f5 = true := (ch9.out (ch10.out (ch11.out (ch12.out rfl).2)).2).2.1
                obtain rfl : f4 = true := (ch9.out (ch10.out (ch11.out (ch12.out rfl).2)).2).1
                obtain rfl : f3 = true := (ch10.out (ch11.out (ch12.out rfl).2)).1
                obtain rfl : f2 = true := (ch3.out (ch10.out (ch11.out (ch12.out rfl).2)).1)
                obtain rfl : f1 = true := (ch12.out rfl).1
                obtain rfl : f0 = true := (ch1.out (ch12.out rfl).1)
                have hfc := fc rfl rfl
                have z8 := hfc.f.d.cell 8 _ HDC.out
                have zf := hfc.f.d.free 8
                have zl := hfc.f.d.lt
                refine .inl ?_
                unfold prUpd Oper.wp
                go_simp
                exact prJ.at true true true true true true true true true true true true true true true (H1) (a8) (c8) rfl rfl (Lib.hid (by simp)) (Lib.hid (by simp)) (Lib.hid (by simp)) (Lib.hid (by simp)) (Lib.hid (by simp)) (Lib.hid (by simp)) (Lib.hid (by simp)) (Lib.hid (by simp)) (Lib.hid (by simp)) (by simp) (by simp) (by simp) (by simp) (by simp) (by simp) (by simp) (fun _ => hfc.put HPQ.out 8 _)
   case rest =>
    obtain ⟨pa, pn, pc, hc⟩ := hcut
    have HF7 := Lib.hid hc.out.1
    have HPR := Lib.hid hc.out.2
    clear hc HF9 HX9 HB9 HXN HQT HQF HE6b HPV HMX
    obtain ⟨s7b, hs7b⟩ : ∃ q, q = stp s7 (manyE t bProject bManagement) := ⟨_, rfl⟩
    obtain ⟨s8, hs⟩ : ∃ q, q = stp s7 (managedE t bProject) := ⟨_, rfl⟩
    have HS8 : Hid (T = stp s8 (depsE false t bProject)) := by show _ = _; rw [HS7.out, ← stp_or (managedE_nz _ _), ← hs]
    have HE7 := Lib.hid hs
    clear hs HS7
    have HE7b : Hid (s8 = stp s7b (match oneV t bManagement with
     | none => none
     | some f => depsE true f (sl bProject bManagement))) := by
     show _ = _
     rw [HE7.out, hs7b]
     exact (stp_or (manyE_nz _ _ _)).symm
    have HPV : Hid (managedV t = match oneV t bManagement with
     | none => []
     | some f => depsV f) := rfl
    have HMX : Hid (∀ k, oneV t bManagement = some k → MildW k) := fun k h => HM.out.one h
    clear HE7
    obtain ⟨a0, a1, a2, a3⟩ := bxc4 HF7.out.n
    have al := HF7.out.n.lt
    have hon := oneR_any (w.heap.size + 2) s7 (fun j => w.heap.size ≤ j) t bProject bManagement _ _ _ (HT.out.gr HF7.out.g HRX.out) HRX.out HF7.out.r HM.out.kl (by decide)
    unfold nodeV at hon
    go_wp2_with fail
    refine hon.mono ?_
    clear hon
    intro e w8 hO
    obtain ⟨v8, rfl, hv8, hr8, hg8⟩ := hO
    have HF8 := Lib.hid (HF7.out.call hr8 hg8)
    have HPR8 := Lib.hid (HPR.out.keptR hg8 (by omega))
    obtain ⟨q, n0, x0, b1, b3, l1, b2, l3, b4, rfl, hqt, hqf⟩ := hv8.gen
    have HQT := Lib.hid hqt
    have HQF := Lib.hid hqf
    clear hr8 hg8 hv8 hqt hqf HF7 a0 a1 a2 a3 al
    go_upto_region 32 with fail
    refine wp_world ?_
    intro W9 hW9
    have x9 : Box W9 w8.heap.size [.string n0, .slice b1 l1 b2, .slice b3 l3 b4, .string x0] := by rw [hW9]; exact Box.new w8 [.string n0, .slice b1 l1 b2, .slice b3 l3 b4, .string x0] _ _ rfl
    have hb9 : Below w8.heap.size w8 W9 := by rw [hW9]; exact (Below.refl _ _).alloc (Nat.le_refl _) _
    clear hW9
    have HX9 := Lib.hid x9
    have HB9 := Lib.hid hb9
    have HF9 := Lib.hid (HF8.out.below hb9)
    have HXN : Hid (w8.heap.size ≠ (w.heap.size + 2) ∧ w8.heap.size ≠ w.heap.size + 3 ∧ w.heap.size + 3 < w8.heap.size) := by have h1 := HF8.out.d.lt; exact ⟨by omega, by omega, h1⟩
    have HPR9 := Lib.hid (HPR8.out.below hb9)
    clear x9 hb9 HF8 HPR8 HPR
    go_upto_if 128 with fail
    rw [← hs7b] at HF9
    clear hs7b
    go_cut [] from 128 to 132 (fun wx => ∃ (ma : Option Addr) (mn mc : Nat), Hid (Frm3 (w.heap.size + 2) s8 w w.heap.size [.string (bs t.name), .slice ao t.attrs.length ac, .slice ko t.kids.length kc, .string (bs t.text)] (w.heap.size + 1) [.bool false, .string ⟨#[]⟩, .string ⟨#[]⟩, .string ⟨#[]⟩, .string ⟨#[]⟩, .string ⟨#[]⟩, .string ⟨#[]⟩, .string ⟨#[]⟩, .slice none 0 0, .slice none 0 0, .slice none 0 0] (w.heap.size + 3) [.bool (parentV t).1, .string (parentV t).2.group, .string (parentV t).2.artifact, .string (parentV t).2.version, .string (bs (wordV t bGroup)), .string (bs (wordV t bArtifact)), .string (bs (wordV t bVersion)), .string (bs (wordV t bPackaging)), .slice pa pn pc, .slice ma mn mc, .slice none 0 0] wx ∧ Owns (w.heap.size + 4) 55 2 prpC wx (.slice pa pn pc) (propsV t) ∧ ∃ ML, DepsOwn (w.heap.size + 4) wx (.slice ma mn mc) (managedV t) ML))
    case first =>
     cases q with
     | false =>
      have ho := HQF.out rfl
      have HN : Hid (s8 = s7b) := by show _ = _; rw [HE7b.out, ho]; rfl
      have HPF : Hid (managedV t = []) := by show _ = _; rw [HPV.out, ho]
      clear ho
      go_wp2
      go_meet
      case rel => exact ⟨none, 0, 0, by rw [HN.out]; exact HF9.out, HPR9.out, [], by rw [HPF.out]; exact DepsOwn.nil _ _⟩
     | true =>
      obtain ⟨k, ho, rfl, rfl, rfl, rfl, hnk⟩ := HQT.out rfl
      have HNK := Lib.hid (hnk.later HB9.out)
      have HMK := Lib.hid (HMX.out k ho)
      have HN : Hid (s8 = stp s7b (depsE true k (sl bProject bManagement))) := by show _ = _; rw [HE7b.out, ho]
      have HPF : Hid (managedV t = depsV k) := by show _ = _; rw [HPV.out, ho]
      have hdc := depsR_any (w.heap.size + 2) s7b (fun j => w.heap.size ≤ j) true 4 .k4 k (sl bProject bManagement) W9 _ _ HNK.out HMK.out HRX.out HF9.out.r (by decide)
      unfold nodeV at hdc
      rw [← HN.out, ← HPF.out] at hdc
      have HS9 : Hid (w.heap.size + 3 < W9.heap.size) := HF9.out.d.lt
      clear ho hnk HQT HQF HMX HB9 HPV HE7b HNK HMK HN HPF
      obtain ⟨k0, k1, k2, k3⟩ := bxc4 HX9.out
      have kl := HX9.out.lt
      go_wp2_with fail
      refine hdc.mono ?_
      clear hdc
      rintro e w10 ⟨v, ML, rfl, hml, hr, hg⟩
      obtain ⟨ma, mc, rfl⟩ := hml.row.shape
      have HF10 := Lib.hid (HF9.out.call hr hg)
      have HPR10 := Lib.hid (HPR9.out.keptR hg (by omega))
      have HML := Lib.hid (hml.base_mono (by have := HS9.out; omega : w.heap.size + 4 ≤ W9.heap.size))
      clear hr hg hml HF9 HX9 HPR9 k0 k1 k2 k3 kl
      have d9 := HF10.out.d.cell 9 _ rfl
      have df9 := HF10.out.d.free 9
      have dl := HF10.out.d.lt
      go_wp2
      go_meet
      case rel => exact ⟨ma, _, mc, HF10.out.set 9 _, HPR10.out.keptR (setCell_grown _ _ _ _) (by omega), ML, HML.out.keptR (setCell_grown _ _ _ _) (by omega)⟩
    case rest =>
     obtain ⟨ma, mn, mc, hc⟩ := hcut
     have HF8 := Lib.hid hc.out.1
     have HPR8 := Lib.hid hc.out.2.1
     have HML8 := Lib.hid hc.out.2.2
     have HS9 : Hid (w.heap.size + 3 < wc.heap.size) := hc.out.1.d.lt
     clear hc HF9 HX9 HB9 HXN HQT HQF HE7b HPV HMX HPR9
     obtain ⟨a0, a1, a2, a3⟩ := bxc4 HF8.out.n
     have al := HF8.out.n.lt
     have hdc := depsR_any (w.heap.size + 2) s8 (fun j => w.heap.size ≤ j) false 3 .k3 t bProject wc _ _ (HT.out.gr HF8.out.g HRX.out) HM.out HRX.out HF8.out.r (by decide)
     unfold nodeV at hdc
     rw [show stp s8 (depsE false t bProject) = T from HS8.out.symm] at hdc
     go_wp2_with fail
     refine hdc.mono ?_
     clear hdc
     rintro e w10 ⟨v, DL, rfl, hdl, hr, hg⟩
     obtain ⟨da, dc, rfl⟩ := hdl.row.shape
     have HFA := Lib.hid (HF8.out.call hr hg)
     have HPRA := Lib.hid (HPR8.out.keptR hg (by omega))
     have HMLA : Hid (∃ ML, DepsOwn (w.heap.size + 4) w10 (.slice ma mn mc) (managedV t) ML) := HML8.out.imp fun _ h => h.keptR hg (by omega)
     have HDL := Lib.hid (hdl.base_mono (by have := HS9.out; omega : w.heap.size + 4 ≤ wc.heap.size))
     generalize DL.length = dn at *
     clear hr hg hdl HF8 HPR8 HML8 a0 a1 a2 a3 al HS8 HS9
     have d10 := HFA.out.d.cell 10 _ rfl
     have df10 := HFA.out.d.free 10
     have dl := HFA.out.d.lt
     go_upto_region 35 with fail
     refine wp_world ?_
     intro W11 hW11
     have HFB : Hid (Frm3 (w.heap.size + 2) T w w.heap.size [.string (bs t.name), .slice ao t.attrs.length ac, .slice ko t.kids.length kc, .string (bs t.text)] (w.heap.size + 1) [.bool false, .string ⟨#[]⟩, .string ⟨#[]⟩, .string ⟨#[]⟩, .string ⟨#[]⟩, .string ⟨#[]⟩, .string ⟨#[]⟩, .string ⟨#[]⟩, .slice none 0 0, .slice none 0 0, .slice none 0 0] (w.heap.size + 3) [.bool (parentV t).1, .string (parentV t).2.group, .string (parentV t).2.artifact, .string (parentV t).2.version, .string (bs (wordV t bGroup)), .string (bs (wordV t bArtifact)), .string (bs (wordV t bVersion)), .string (bs (wordV t bPackaging)), .slice pa pn pc, .slice ma mn mc, .slice da dn dc] W11) := by rw [hW11]; exact HFA.out.set 10 _
     have HPO : Hid (PomOwn (w.heap.size + 4) W11 (readV t) (.slice pa pn pc) (.slice ma mn mc) (.slice da dn dc)) := by
      rw [hW11]
      exact ⟨HPRA.out.keptR (setCell_grown _ _ _ _) (by omega), HMLA.out.imp fun _ h => h.keptR (setCell_grown _ _ _ _) (by omega), DL, HDL.out.keptR (setCell_grown _ _ _ _) (by omega)⟩
     clear hW11 HFA HPRA HMLA HDL d10 df10 dl
     have r0 := HFB.out.r.cell 0 _ rfl
     have rl := HFB.out.r.lt
     cases hE : readE t with
     | none =>
      have HE := Lib.hid hE
      have hT0 : T = (0, ⟨#[]⟩) := by rw [HTE.out, hE]
      subst hT0
      simp only at r0
      clear hE HTE
      go_wp2_with (first | ((with_reducible show wpList _ _ _ (Oper.mk _ (Op.load 33 (.tmp 6)) _ _ _ _ :: _) _ _); refine wpList_load_box rfl 33 (.tmp 6) rfl (w.heap.size + 3) [.bool (parentV t).1, .string (parentV t).2.group, .string (parentV t).2.artifact, .string (parentV t).2.version, .string (bs (wordV t bGroup)), .string (bs (wordV t bArtifact)), .string (bs (wordV t bVersion)), .string (bs (wordV t bPackaging)), .slice pa pn pc, .slice ma mn mc, .slice da dn dc] rfl HFB.out.d Tryz.underlying33 rfl size_pomQ ?_) | ((with_reducible show wpList _ _ _ (Oper.mk none (Op.store 33 (.tmp 2) (.tmp 151)) _ _ _ _ :: _) _ _); refine wpList_store_box rfl 33 (.tmp 2) (.tmp 151) rfl (w.heap.size + 1) [.bool false, .string ⟨#[]⟩, .string ⟨#[]⟩, .string ⟨#[]⟩, .string ⟨#[]⟩, .string ⟨#[]⟩, .string ⟨#[]⟩, .string ⟨#[]⟩, .slice none 0 0, .slice none 0 0, .slice none 0 0] [.bool (parentV t).1, .string (parentV t).2.group, .string (parentV t).2.artifact, .string (parentV t).2.version, .string (bs (wordV t bGroup)), .string (bs (wordV t bArtifact)), .string (bs (wordV t bVersion)), .string (bs (wordV t bPackaging)), .slice pa pn pc, .slice ma mn mc, .slice da dn dc] rfl rfl HFB.out.z rfl size_pomQ (by simp [Value.oneCell']) ?_; intro W12 v12 hg12; have HV12 := Lib.hid v12; have HG12 := Lib.hid hg12; clear v12 hg12))
      obtain ⟨y0, y1, y2, y3, y4, y5, y6, y7, y8, y9, y10⟩ := bxc11 HV12.out
      refine bodyPost_ret (v := .tuple #[.agg #[.bool (parentV t).1, .string (parentV t).2.group, .string (parentV t).2.artifact, .string (parentV t).2.version, .string (bs (wordV t bGroup)), .string (bs (wordV t bArtifact)), .string (bs (wordV t bVersion)), .string (bs (wordV t bPackaging)), .slice pa pn pc, .slice ma mn mc, .slice da dn dc], .int .i64 0, .string ⟨#[]⟩]) (by simp [results, Tryz.results14, go_sem, y0, y1, y2, y3, y4, y5, y6, y7, y8, y9, y10]) rfl ?_
      have hg : w.grownBy W12 (some (w.heap.size + 2)) := HFB.out.g.andThen HG12.out (fun j e => by cases e; exact .inl (by omega))
      refine ⟨gr_below hg (Nat.le_add_right _ _) (Nat.le_refl _), fun x hx => (by rw [HE.out] at hx; cases hx), fun _ => ⟨_, _, _, rfl, (HPO.out.keptR HG12.out (by omega)).base_mono (by omega)⟩⟩
     | some x =>
      have HE := Lib.hid hE
      have hT0 : T = (x.1, bs x.2) := by rw [HTE.out, hE]
      subst hT0
      simp only at r0
      have hx0 : (x.1 == 0) = false := by simpa using readE_nz t x hE
      clear hE HTE
      have HBZ : Hid (Below w.heap.size w W11) := gr_below HFB.out.g (Nat.le_add_right _ _) (Nat.le_refl _)
      have HRB0 : Hid (Box W11 (w.heap.size + 1 + 1) [.int .i64 x.1, .string (bs x.2)]) := HFB.out.r
      have HZB0 : Hid (Box W11 (w.heap.size + 1) [.bool false, .string ⟨#[]⟩, .string ⟨#[]⟩, .string ⟨#[]⟩, .string ⟨#[]⟩, .string ⟨#[]⟩, .string ⟨#[]⟩, .string ⟨#[]⟩, .slice none 0 0, .slice none 0 0, .slice none 0 0]) := HFB.out.z
      have HNE : Hid (w.heap.size + 1 + 1 ≠ w.heap.size + 1 ∧ w.heap.size ≤ w.heap.size + 1) := ⟨by omega, by omega⟩
      clear HPO HFB
      go_upto_region 36 with fail
      refine wp_region_flags0 (zeJ (w.heap.size + 1 + 1) x.1 (bs x.2) w W11 _ _ _ _ _ _ _ _ _ _ _ _ _ _ _ _ _ _ _ _ _ _ _ _ _ _ _ _ _ _ _ _ _ _ _ _ _ _ _ _ _ _ _ _ _ _ _ _ _ _ _ _ _ _ _ _ _ _ _ _ _ _ _ _ _ _ _ _ _ _ _ _ _ _ _ _ _ _ _ _ _ _ _ _ _ _ _ _ _ _ _ _ _ _ _ _ _ _ _ _ _ _ _ _ _ _ _ _ _ _ _ _ _ _ _ _ _ _ _ _ _ _ _ _ _ _ _ _ _ _ _ _ _ _ _ _ _ _ _ _ _ _ _ _ _ _ _ _ _ _ _ _) (by kernel_rfl) 12 rfl (by kernel_rfl) (zeJ.at false false false false false false false false false false false false  rfl (by unfold zeUpd; rfl) ?i0 ?i1 ?i2 ?i3 ?i4 ?i5 ?i6 ?i7 ?i8 ?i9 ?i10 ?i11 ?i12) ?fin ?step
      case i0 => exact Lib.hid (by simp)
      case i1 => exact Lib.hid (by simp)
      case i2 => exact Lib.hid (by simp)
      case i3 => exact Lib.hid (by simp)
      case i4 => exact Lib.hid (by simp)
      case i5 => exact Lib.hid (by simp)
      case i6 => exact Lib.hid (by simp)
      case i7 => exact Lib.hid (by simp)
      case i8 => exact Lib.hid (by simp)
      case i9 => exact fun h0 => belowN (Below.refl _ _) 1
      case i10 => exact HRB0.out.drewN 1
      case i11 => exact HZB0.out.drewN 1
      case i12 => exact belowN HBZ.out 1
      case fin =>
       intro a' w' hJ
       generalize hl : Array.replicate 12 true = Lz at hJ
       cases hJ with
       | mk f0 f1 f2 f3 f4 f5 f6 f7 f8 f9 f10 f11 _ ch2 ch3 ch4 ch6 ch7 ch8 ch9 ch10 ch11 hB rb rz bw =>
        have hl' : [true, true, true, true, true, true, true, true, true, true, true, true] = [f0, f1, f2, f3, f4, f5, f6, f7, f8, f9, f10, f11] := congrArg Array.toList hl
        simp only [List.cons.injEq, and_true] at hl'
        obtain ⟨rfl, rfl, rfl, rfl, rfl, rfl, rfl, rfl, rfl, rfl, rfl, rfl⟩ := hl'
        clear hl
        unfold zeUpd
        simp only [cond_true]
        have HZF := Lib.hid rz
        have HBF := Lib.hid bw
        clear ch2 ch3 ch4 ch6 ch7 ch8 ch9 ch10 ch11 hB rb rz bw
        obtain ⟨y0, y1, y2, y3, y4, y5, y6, y7, y8, y9, y10⟩ := bxc11 HZF.out
        go_wp2
        refine bodyPost_ret (v := .tuple #[.agg #[.bool false, .string ⟨#[]⟩, .string ⟨#[]⟩, .string ⟨#[]⟩, .string ⟨#[]⟩, .string ⟨#[]⟩, .string ⟨#[]⟩, .string ⟨#[]⟩, .slice none 0 0, .slice none 0 0, .slice none 0 0], .int .i64 x.1, .string (bs x.2)]) (by simp [results, Tryz.results14, go_sem, y0, y1, y2, y3, y4, y5, y6, y7, y8, y9, y10]) rfl ?_
        exact ⟨HBF.out, fun y hy => (by rw [HE.out] at hy; cases hy; rfl), fun hn => (by rw [HE.out] at hn; cases hn)⟩
      case step =>
       intro listed a' w' hJ i hi
       cases hJ with
       | mk f0 f1 f2 f3 f4 f5 f6 f7 f8 f9 f10 f11 _ ch2 ch3 ch4 ch6 ch7 ch8 ch9 ch10 ch11 hB rb rz bw =>
        rw [mem_ready] at hi
        obtain ⟨hu, o, ho, ha⟩ := hi
        have hi8 : i < 12 := (Array.getElem?_eq_some_iff.1 ho).1
        rcases (by omega : i = 0 ∨ i = 1 ∨ i = 2 ∨ i = 3 ∨ i = 4 ∨ i = 5 ∨ i = 6 ∨ i = 7 ∨ i = 8 ∨ i = 9 ∨ i = 10 ∨ i = 11) with rfl | rfl | rfl | rfl | rfl | rfl | rfl | rfl | rfl | rfl | rfl | rfl
        · have ho' := ho
          simp at hu ho
          subst hu ho
          clear ha
          have e9 : f9 = false := Bool.eq_false_iff.2 fun h => Bool.false_ne_true ((ch9.out h))
          subst e9
          refine .inl ?_
          unfold zeUpd Oper.wp
          go_simp
          exact zeJ.at true f1 f2 f3 f4 f5 f6 f7 f8 false f10 f11 rfl rfl (ch2) (ch3) (ch4) (ch6) (ch7) (ch8) (Lib.hid (by simp)) (ch10) (ch11) (hB) (rb) (rz) (bw)
        · have ho' := ho
          simp at hu ho
          subst hu ho
          clear ha
          have e2 : f2 = false := Bool.eq_false_iff.2 fun h => Bool.false_ne_true ((ch2.out h))
          have e3 : f3 = false := Bool.eq_false_iff.2 fun h => Bool.false_ne_true ((ch2.out (ch3.out h)))
          have e4 : f4 = false := Bool.eq_false_iff.2 fun h => Bool.false_ne_true ((ch2.out (ch3.out (ch4.out h))))
          have e10 : f10 = false := Bool.eq_false_iff.2 fun h => Bool.false_ne_true ((ch2.out (ch3.out (ch4.out (ch10.out h)))))
          subst e2 e3 e4 e10
          refine .inl ?_
          unfold zeUpd Oper.wp
          go_simp
          exact zeJ.at f0 true false false false f5 f6 f7 f8 f9 false f11 rfl rfl (Lib.hid (by simp)) (Lib.hid (by simp)) (Lib.hid (by simp)) (ch6) (ch7) (ch8) (ch9) (Lib.hid (by simp)) (ch11) (hB) (rb) (rz) (bw)
        · have ho' := ho
          simp at hu ho
          subst hu ho
          simp [Region.binds] at ha
          obtain rfl : f1 = true := by simp only [ha]
          clear ha
          have e3 : f3 = false := Bool.eq_false_iff.2 fun h => Bool.false_ne_true ((ch3.out h))
          have e4 : f4 = false := Bool.eq_false_iff.2 fun h => Bool.false_ne_true ((ch3.out (ch4.out h)))
          have e10 : f10 = false := Bool.eq_false_iff.2 fun h => Bool.false_ne_true ((ch3.out (ch4.out (ch10.out h))))
          subst e3 e4 e10
          refine .inl ?_
          unfold zeUpd Oper.wp
          go_simp
          exact zeJ.at f0 true true false false f5 f6 f7 f8 f9 false f11 rfl rfl (Lib.hid (by simp)) (Lib.hid (by simp)) (Lib.hid (by simp)) (ch6) (ch7) (ch8) (ch9) (Lib.hid (by simp)) (ch11) (hB) (rb) (rz) (bw)
        · have ho' := ho
          simp at hu ho
          subst hu ho
          simp [Region.binds] at ha
          obtain rfl : f2 = true := by simp only [ha]
          clear ha
          obtain rfl : f1 = true := (ch2.out rfl)
          have e4 : f4 = false := Bool.eq_false_iff.2 fun h => Bool.false_ne_true ((ch4.out h))
          have e10 : f10 = false := Bool.eq_false_iff.2 fun h => Bool.false_ne_true ((ch4.out (ch10.out h)))
          subst e4 e10
          refine .inl ?_
          unfold zeUpd Oper.wp
          go_simp
          exact zeJ.at f0 true true true false f5 f6 f7 f8 f9 false f11 rfl rfl (Lib.hid (by simp)) (Lib.hid (by simp)) (Lib.hid (by simp)) (ch6) (ch7) (ch8) (ch9) (Lib.hid (by simp)) (ch11) (hB) (rb) (rz) (bw)
        · have ho' := ho
          simp at hu ho
          subst hu ho
          simp [Region.binds] at ha
          obtain rfl : f3 = true := by simp only [ha]
          clear ha
          obtain rfl : f2 = true := (ch3.out rfl)
          obtain rfl : f1 = true := (ch2.out (ch3.out rfl))
          have e10 : f10 = false := Bool.eq_false_iff.2 fun h => Bool.false_ne_true ((ch10.out h))
          subst e10
          have z0 := rb.cell 0 _ rfl
          have zl := rb.lt
          refine .inl ?_
          unfold zeUpd Oper.wp
          go_simp
          exact zeJ.at f0 true true true true f5 f6 f7 f8 f9 false f11 rfl rfl (Lib.hid (by simp)) (Lib.hid (by simp)) (Lib.hid (by simp)) (ch6) (ch7) (ch8) (ch9) (Lib.hid (by simp)) (ch11) (hB) (rb) (rz) (bw)
        · have ho' := ho
          simp at hu ho
          subst hu ho
          clear ha
          have e6 : f6 = false := Bool.eq_false_iff.2 fun h => Bool.false_ne_true ((ch6.out h))
          have e7 : f7 = false := Bool.eq_false_iff.2 fun h => Bool.false_ne_true ((ch6.out (ch7.out h)))
          have e8 : f8 = false := Bool.eq_false_iff.2 fun h => Bool.false_ne_true ((ch6.out (ch7.out (ch8.out h))))
          have e11 : f11 = false := Bool.eq_false_iff.2 fun h => Bool.false_ne_true ((ch6.out (ch7.out (ch8.out (ch11.out h)))))
          subst e6 e7 e8 e11
          refine .inl ?_
          unfold zeUpd Oper.wp
          go_simp
          exact zeJ.at f0 f1 f2 f3 f4 true false false false f9 f10 false rfl rfl (ch2) (ch3) (ch4) (Lib.hid (by simp)) (Lib.hid (by simp)) (Lib.hid (by simp)) (ch9) (ch10) (Lib.hid (by simp)) (hB) (rb) (rz) (bw)
        · have ho' := ho
          simp at hu ho
          subst hu ho
          simp [Region.binds] at ha
          obtain rfl : f5 = true := by simp only [ha]
          clear ha
          have e7 : f7 = false := Bool.eq_false_iff.2 fun h => Bool.false_ne_true ((ch7.out h))
          have e8 : f8 = false := Bool.eq_false_iff.2 fun h => Bool.false_ne_true ((ch7.out (ch8.out h)))
          have e11 : f11 = false := Bool.eq_false_iff.2 fun h => Bool.false_ne_true ((ch7.out (ch8.out (ch11.out h))))
          subst e7 e8 e11
          refine .inl ?_
          unfold zeUpd Oper.wp
          go_simp
          exact zeJ.at f0 f1 f2 f3 f4 true true false false f9 f10 false rfl rfl (ch2) (ch3) (ch4) (Lib.hid (by simp)) (Lib.hid (by simp)) (Lib.hid (by simp)) (ch9) (ch10) (Lib.hid (by simp)) (hB) (rb) (rz) (bw)
        · have ho' := ho
          simp at hu ho
          subst hu ho
          simp [Region.binds] at ha
          obtain rfl : f6 = true := by simp only [ha]
          clear ha
          obtain rfl : f5 = true := (ch6.out rfl)
          have e8 : f8 = false := Bool.eq_false_iff.2 fun h => Bool.false_ne_true ((ch8.out h))
          have e11 : f11 = false := Bool.eq_false_iff.2 fun h => Bool.false_ne_true ((ch8.out (ch11.out h)))
          subst e8 e11
          refine .inl ?_
          unfold zeUpd Oper.wp
          go_simp
          exact zeJ.at f0 f1 f2 f3 f4 true true true false f9 f10 false rfl rfl (ch2) (ch3) (ch4) (Lib.hid (by simp)) (Lib.hid (by simp)) (Lib.hid (by simp)) (ch9) (ch10) (Lib.hid (by simp)) (hB) (rb) (rz) (bw)
        · have ho' := ho
          simp at hu ho
          subst hu ho
          simp [Region.binds] at ha
          obtain rfl : f7 = true := by simp only [ha]
          clear ha
          obtain rfl : f6 = true := (ch7.out rfl)
          obtain rfl : f5 = true := (ch6.out (ch7.out rfl))
          have e11 : f11 = false := Bool.eq_false_iff.2 fun h => Bool.false_ne_true ((ch11.out h))
          subst e11
          have z1 := rb.cell 1 _ rfl
          have zl := rb.lt
          refine .inl ?_
          unfold zeUpd Oper.wp
          go_simp
          exact zeJ.at f0 f1 f2 f3 f4 true true true true f9 f10 false rfl rfl (ch2) (ch3) (ch4) (Lib.hid (by simp)) (Lib.hid (by simp)) (Lib.hid (by simp)) (ch9) (ch10) (Lib.hid (by simp)) (hB) (rb) (rz) (bw)
        · have ho' := ho
          simp at hu ho
          subst hu ho
          simp [Region.binds] at ha
          obtain rfl : f0 = true := by simp only [ha]
          clear ha
          refine .inl ?_
          unfold zeUpd
          refine wp_store_box 33 (.tmp 2) (.tmp 142) rfl (w.heap.size + 1) [.bool false, .string ⟨#[]⟩, .string ⟨#[]⟩, .string ⟨#[]⟩, .string ⟨#[]⟩, .string ⟨#[]⟩, .string ⟨#[]⟩, .string ⟨#[]⟩, .slice none 0 0, .slice none 0 0, .slice none 0 0] [.bool false, .string ⟨#[]⟩, .string ⟨#[]⟩, .string ⟨#[]⟩, .string ⟨#[]⟩, .string ⟨#[]⟩, .string ⟨#[]⟩, .string ⟨#[]⟩, .slice none 0 0, .slice none 0 0, .slice none 0 0] (by simp [Act.eval]) (by simp [Act.eval]) rz rfl size_pomQ (by simp [Value.oneCell']) ?_
          intro w1 hz1 hg1
          exact zeJ.at true f1 f2 f3 f4 f5 f6 f7 f8 true f10 f11 rfl rfl (ch2) (ch3) (ch4) (ch6) (ch7) (ch8) (Lib.hid (by simp)) (ch10) (ch11) (by simp) (rb.gr hg1 HNE.out.1) (hz1) (bw.trans (gr_below hg1 HNE.out.2 bw.size))
        · have ho' := ho
          simp at hu ho
          subst hu ho
          simp [Region.binds] at ha
          obtain rfl : f4 = true := by simp only [ha]
          clear ha
          obtain rfl : f3 = true := (ch4.out rfl)
          obtain rfl : f2 = true := (ch3.out (ch4.out rfl))
          obtain rfl : f1 = true := (ch2.out (ch3.out (ch4.out rfl)))
          refine .inl ?_
          unfold zeUpd Oper.wp
          go_simp
          exact zeJ.at f0 true true true true f5 f6 f7 f8 f9 true f11 rfl rfl (Lib.hid (by simp)) (Lib.hid (by simp)) (Lib.hid (by simp)) (ch6) (ch7) (ch8) (ch9) (Lib.hid (by simp)) (ch11) (hB) (rb) (rz) (bw)
        · have ho' := ho
          simp at hu ho
          subst hu ho
          simp [Region.binds] at ha
          obtain rfl : f8 = true := by simp only [ha]
          clear ha
          obtain rfl : f7 = true := (ch8.out rfl)
          obtain rfl : f6 = true := (ch7.out (ch8.out rfl))
          obtain rfl : f5 = true := (ch6.out (ch7.out (ch8.out rfl)))
          refine .inl ?_
          unfold zeUpd Oper.wp
          go_simp
          exact zeJ.at f0 f1 f2 f3 f4 true true true true f9 f10 true rfl rfl (ch2) (ch3) (ch4) (Lib.hid (by simp)) (Lib.hid (by simp)) (Lib.hid (by simp)) (ch9) (ch10) (Lib.hid (by simp)) (hB) (rb) (rz) (bw)

end Go.Proofs.YtbbbfjcikhpmbaaGreat
