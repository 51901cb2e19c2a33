/- A part of a variable of the call's own: loads and stores of a struct within it; no program in sight. -/
import Derived.Test.YtphaeegbmfpcgaaGreatDoorFB03
import Derived.Deep.MidRow
import Derived.Test.YtphaeegbmfpcgaaGreatDoorFB16
import Derived.Test.YtphaeegbmfpcgaaGreatDoorFB14
import Derived.KernelRfl
import Derived.Laws.StructEq
import Derived.MapKept
import Derived.WalkKit
namespace Go.Proofs.YtphaeegbmfpcgaaGreatDoor
open Go Go.RowKit

theorem Box.mid {w : World} {b o : Nat} {pre cs post : List Value} (h : Box w b (pre ++ cs ++ post)) (ho : pre.length = o) : w.rangeAt b o cs := fun j v hv => by
 subst ho
 have hj : j < cs.length := (List.getElem?_eq_some_iff.1 hv).1
 refine h.cell _ v ?_
 rw [List.append_assoc, List.getElem?_append_right (by omega), Nat.add_sub_cancel_left, List.getElem?_append_left hj, hv]
theorem Box.thereMid {w : World} {b o : Nat} {pre cs post : List Value} {n : Nat} (h : Box w b (pre ++ cs ++ post)) (ho : pre.length = o) (hn : n = cs.length) : w.there b o n := fun j hj => by
 refine ⟨?_, by simpa using h.free (o + j)⟩
 rw [h.mid ho j cs[j] (by simp [hn ▸ hj])]; rfl
theorem Box.setMid {w : World} {b o : Nat} {pre old cs post : List Value} (h : Box w b (pre ++ old ++ post)) (ho : pre.length = o) (hl : old.length = cs.length) : Box (w.setCells b o cs) b (pre ++ cs ++ post) := by
 have hth := h.thereMid ho hl.symm
 have hr := World.rangeAt_setCells_same w b o cs hth
 have hg : ∀ (vs : List Value) (o : Nat) (w : World), (w.setCells b o vs).heap.size = w.heap.size := by
  intro vs
  induction vs with
  | nil => intro o w; rfl
  | cons v vs ih => intro o w; simp only [World.setCells]; rw [ih]; simp [World.setCell]
 refine ⟨by rw [hg]; exact h.lt, fun j u hu => ?_, fun j => ?_⟩
 · subst ho
   by_cases h1 : j < pre.length
   · rw [World.cell?_setCells_out b cs _ w ⟨b, j, none⟩ (fun _ _ => .inl (by exact h1))]
     refine h.cell j u ?_
     rw [List.append_assoc, List.getElem?_append_left h1] at hu ⊢
     exact hu
   · by_cases h2 : j < pre.length + cs.length
     · obtain ⟨k, rfl⟩ : ∃ k, j = pre.length + k := ⟨j - pre.length, by omega⟩
       refine hr k u ?_
       rw [List.append_assoc, List.getElem?_append_right (by omega), Nat.add_sub_cancel_left, List.getElem?_append_left (by omega)] at hu
       exact hu
     · rw [World.cell?_setCells_out b cs _ w ⟨b, j, none⟩ (fun _ _ => .inr (by show pre.length + cs.length ≤ j; omega))]
       refine h.cell j u ?_
       rw [List.getElem?_append_right (by simp; omega)] at hu ⊢
       rw [← hu]
       congr 1
       simp [hl]
 · rw [World.frozen?_setCells]; exact h.free j
theorem wpList_store_part {P : Program} {ops : Array Oper} {rest : List Oper} {op : Oper} {a : Act} {w : World} {Q : Exit → Act → World → Prop} (hgd : op.guard = none) (ty : TypeId) (x y : Operand) (ho : op.op = .store ty x y)
    (b o : Nat) (pre old cs post : List Value) (hx : a.eval x = .pointer (some ⟨b, o, none⟩)) (hy : a.eval y = .agg cs.toArray) (hb : Box w b (pre ++ old ++ post)) (hp : pre.length = o) (hl : old.length = cs.length)
    (hi : (P.info? ty).map (·.size) = some cs.length) (h1 : ∀ v ∈ cs, v.oneCell' = true)
    (h : ∀ W', Box W' b (pre ++ cs ++ post) → w.grownBy W' (some b) → wpList P ops Q rest (a.put op.dst undef) W') : wpList P ops Q (op :: rest) a w :=
 wpList_store_mid hgd ty x y ho b o cs.toArray hx hy (hb.thereMid hp (by simp [hl])) (by simpa using hi) (all_oneCell_toArray h1) (h _ (hb.setMid hp hl) (setCells_grown b _ o w))
/-- One cell of it. -/
theorem Box.setOne {w : World} {b o : Nat} {u : Value} {cs cs' : List Value} (h : Box w b cs) (hc : cs' = cs.set o u) (ho : o < cs.length) : Box (w.setCell ⟨b, o, none⟩ u) b cs' := by
 subst hc
 refine ⟨by simpa [World.setCell] using h.lt, fun j v hv => ?_, fun j => by simpa using h.free j⟩
 rw [List.getElem?_set] at hv
 by_cases hj : o = j
 · subst hj
   rw [if_pos rfl, if_pos ho] at hv
   cases hv
   exact World.cell?_setCell_same _ _ _ (h.cell o cs[o] (by simp [ho]))
 · rw [if_neg hj] at hv
   exact (World.cell?_setCell_other _ _ _ _ (fun e => hj (by cases e; rfl))).trans (h.cell j v hv)
theorem region_laterS {P : Program} {id : Nat} {Q : Exit → Act → World → Prop} {a : Act} {w : World} {l : List Oper} (hm : P.follows .mixedOrders = true) (hB : Region.lexB .any l.toArray = true)
    (h : wpQuiet P l.toArray (fun w' => ∃ x : Later w, w' = x.at_) (fun a' => ∀ w', (∃ x : Later w, w' = x.at_) → Q .normal a' w') l a) : (Code.region id l.toArray true).wp P Q a w :=
 wp_region_quiet (C := fun w' => ∃ x : Later w, w' = x.at_) hm hB ⟨⟨{ w with drawn := w.drawn + 1 }, ⟨rfl, rfl, rfl, Nat.le_refl _, fun _ _ => rfl⟩⟩, rfl⟩ (by simpa using h)
theorem Later.cellsS {w : World} (x : Later w) (b o : Nat) (h : b < w.heap.size) : x.at_.cell? ⟨b, o, none⟩ = w.cell? ⟨b, o, none⟩ := x.below.cell h
/-- A store of all of a block's cells, as a step of a region that draws its order. -/
theorem wp_store_box {P : Program} {op : Oper} {a : Act} {w : World} {K : Act → World → Prop} {Q : Exit → Act → World → Prop} (ty : TypeId) (x y : Operand) (ho : op.op = .store ty x y)
    (b : Nat) (old cs : List Value) (hx : a.eval x = .pointer (some ⟨b, 0, none⟩)) (hy : a.eval y = .agg cs.toArray) (hb : Box w b old) (hl : old.length = cs.length)
    (hi : (P.info? ty).map (·.size) = some cs.length) (h1 : ∀ v ∈ cs, v.oneCell' = true) (h : ∀ W', Box W' b cs → w.grownBy W' (some b) → K (a.put op.dst undef) W') : op.wp P a w K Q := by
 have hth : w.there b 0 cs.toArray.size := fun j hj => by
  have hj' : j < old.length := by rw [hl]; simpa using hj
  refine ⟨?_, by simpa using hb.free (0 + j)⟩
  rw [Nat.zero_add, hb.cell j old[j] (by simp [hj'])]; rfl
 exact wp_store_mid ty x y ho b 0 cs.toArray hx hy hth (by simpa using hi) (all_oneCell_toArray h1) (h _ (hb.setCells hl) (setCells_grown b _ 0 w))

end Go.Proofs.YtphaeegbmfpcgaaGreatDoor

/- What store.New, Has, Len, id do; keys that are structs; the conditions stand in the theorems. -/
namespace Go.Proofs.YtphaeegbmfpcgaaGreatDoor
open Go Go.RowKit

theorem beq_str (a b : S) : (a.toList == b.toList) = decide (a = b) := by
 rw [Bool.eq_iff_iff, beq_iff_eq, decide_eq_true_iff, ByteArray.toList_eq, ByteArray.toList_eq]
 constructor
 · intro h
   obtain ⟨⟨x⟩⟩ := a
   obtain ⟨⟨y⟩⟩ := b
   simpa using h
 · rintro rfl; rfl
theorem std_gav : Tryz.prog.stoodInHeld 26 = false := by kernel_rfl
theorem std_id : Tryz.prog.stoodInHeld 24 = false := by kernel_rfl
theorem eq_kGav (a b : Gav) (w : World) : (Op.equal 26 (kGav a) (kGav b)).run Tryz.prog w = .ok (decide (a = b)) w := by
 have h := std_gav
 obtain ⟨a0, a1, a2⟩ := a
 obtain ⟨b0, b1, b2⟩ := b
 simp only [Op.equal, Op.maxDepth, kGav, gavC]
 by_cases h0 : a0 = b0 <;> by_cases h1 : a1 = b1 <;> by_cases h2 : a2 = b2 <;> simp [go_sem, h, h0, h1, h2, beq_str]
theorem eq_kId (a b : Id) (w : World) : (Op.equal 24 (kId a) (kId b)).run Tryz.prog w = .ok (decide (a = b)) w := by
 have h := std_id
 obtain ⟨a0, a1⟩ := a
 obtain ⟨b0, b1⟩ := b
 simp only [Op.equal, Op.maxDepth, kId, idC]
 by_cases h0 : a0 = b0 <;> by_cases h1 : a1 = b1 <;> simp [go_sem, h, h0, h1, beq_str]
theorem chk_str (b : Bool) (n : Nat) (s : S) (w : World) : (Instr.checkKey b (n + 1) 9 (.string s)).run Tryz.prog w = .ok () w := by
 simp [Instr.checkKey, run_underlying Tryz.underlying9]
theorem chk_gav (b : Bool) (k : Gav) (w : World) : (Instr.checkKey b 10000 26 (kGav k)).run Tryz.prog w = .ok () w := by
 obtain ⟨a0, a1, a2⟩ := k
 rw [show (10000 : Nat) = 9998 + 1 + 1 from rfl]
 generalize 9998 = n
 rw [Instr.checkKey]
 simp only [kGav, gavC, Sem.run_bind, run_underlying Tryz.underlying26, Result.andThen_ok]
 have hs := fun b n s w => chk_str b n s w
 simp [go_sem, hs]
theorem chk_id (b : Bool) (k : Id) (w : World) : (Instr.checkKey b 10000 24 (kId k)).run Tryz.prog w = .ok () w := by
 obtain ⟨a0, a1⟩ := k
 rw [show (10000 : Nat) = 9998 + 1 + 1 from rfl]
 generalize 9998 = n
 rw [Instr.checkKey]
 simp only [kId, idC, Sem.run_bind, run_underlying Tryz.underlying24, Result.andThen_ok]
 have hs := fun b n s w => chk_str b n s w
 simp [go_sem, hs]
theorem mk_gav : MKey Tryz.prog 26 kGav := ⟨⟨_, Tryz.underlying26⟩, eq_kGav, chk_gav⟩
theorem mk_id : MKey Tryz.prog 24 kId := ⟨⟨_, Tryz.underlying24⟩, eq_kId, chk_id⟩
theorem bytes_same (s : S) : (s == s) = true := by rw [beq_toListBytes]; simp
theorem same_gav (k : Gav) : Instr.sameBits 10000 (kGav k) (kGav k) = true := by
 rw [show (10000 : Nat) = 9998 + 1 + 1 from rfl]
 simp [Instr.sameBits, kGav, gavC, bytes_same]
theorem same_id (k : Id) : Instr.sameBits 10000 (kId k) (kId k) = true := by
 rw [show (10000 : Nat) = 9998 + 1 + 1 from rfl]
 simp [Instr.sameBits, kId, idC, bytes_same]
theorem zeroPtr (w : World) : (zeroValue 78).run Tryz.prog w = .ok (.pointer none) w := by kernel_rfl
theorem zeroRow (w : World) : (zeroValue 36).run Tryz.prog w = .ok nilS w := by kernel_rfl
theorem look_ent {w : World} {m : Nat} {L : List (MEnt Gav)} {c : Nat} (g : Gav) (h : MMap kGav w m L c) :
    (Instr.lookup 65 (.map (some m)) (.agg #[.string g.group, .string g.artifact, .string g.version]) false).run Tryz.prog w = .ok ((mGet L g).getD (.pointer none)) w :=
 run_lookupM mk_gav Tryz.underlying65 zeroPtr g h
theorem look_row {w : World} {m : Nat} {L : List (MEnt Id)} {c : Nat} (x : Id) (h : MMap kId w m L c) :
    (Instr.lookup 66 (.map (some m)) (.agg #[.string x.group, .string x.artifact]) false).run Tryz.prog w = .ok (rowV L x) w :=
 run_lookupM mk_id Tryz.underlying66 zeroRow x h
theorem set_ent {w : World} {m : Nat} {L : List (MEnt Gav)} {c : Nat} (g : Gav) (v : Value) (h : MMap kGav w m L c) :
    (Instr.mapUpdate 65 (.map (some m)) (.agg #[.string g.group, .string g.artifact, .string g.version]) v).run Tryz.prog w = .ok () (mSet kGav w m (mPut L g v c) (mCnt L g c)) :=
 run_updateM mk_gav same_gav Tryz.underlying65 g v h
theorem set_row {w : World} {m : Nat} {L : List (MEnt Id)} {c : Nat} (x : Id) (v : Value) (h : MMap kId w m L c) :
    (Instr.mapUpdate 66 (.map (some m)) (.agg #[.string x.group, .string x.artifact]) v).run Tryz.prog w = .ok () (mSet kId w m (mPut L x v c) (mCnt L x c)) :=
 run_updateM mk_id same_id Tryz.underlying66 x v h
theorem len_map {K : Type} {P : Program} {kc : K → Value} {w : World} {m : Nat} {L : List (MEnt K)} {c : Nat} {t k e : TypeId} (h : MMap kc w m L c) (ht : P.underlying t = some (.map k e)) (ty : TypeId) : (Builtin.len_ #[t] ty #[.map (some m)]).run P w = .ok (.int .i64 L.length) w := by
 simp [Builtin.len_, run_underlying ht, MapKept.run_getObj_map (show w.heap[m]? = _ from h), goInt, Result.andThen]
def NewOut (w : World) (e : Ending) (w' : World) : Prop := ∃ b F, e = .returned (ptr b) ∧ StoreAt F w' b [] 0 0 ∧ (∀ k, F k → w.heap.size ≤ k) ∧ Below w.heap.size w w'
set_option maxRecDepth 100000 in
theorem new_any (w : World) : Calls Tryz.prog 16 #[] w (NewOut w) := by
 have hmm := @run_makeMap Tryz.prog
 go_enter Tryz.func16, Tryz.ntmps16
 go_wp2_with fail
 go_ret
 have e0 : MMap kGav (w.alloc (.map #[] 0)) w.heap.size [] 0 := heap_alloc_new w _
 have e1 : MMap kId ((w.alloc (.map #[] 0)).alloc (.map #[] 0)) (w.heap.size + 1) [] 0 := by
  have := heap_alloc_new (w.alloc (.map #[] 0)) (.map #[] 0)
  simpa [MMap] using this
 have hb : Below w.heap.size w (((w.alloc (.map #[] 0)).alloc (.map #[] 0)).alloc (.cells #[.map (some w.heap.size), .map (some (w.heap.size + 1)), .int .i64 0, .int .i64 0] 73)) :=
  (((Below.refl _ _).alloc (Nat.le_refl _) _).alloc (by simp) _).alloc (by simp; omega) _
 refine ⟨w.heap.size + 2, fun k => w.heap.size ≤ k ∧ k < w.heap.size + 3, rfl, ⟨w.heap.size, w.heap.size + 1, [], 0, [], 0, ?_⟩, fun k h => h.1, hb⟩
 refine ⟨Box.new _ [.map (some w.heap.size), .map (some (w.heap.size + 1)), .int .i64 0, .int .i64 0] _ _ (by simp), ?_, ?_, rfl, by simp, fun x => .inl ⟨rfl, rfl⟩, ?_, ?_, ⟨⟨by omega, by omega⟩, ⟨by omega, by omega⟩, ⟨by omega, by omega⟩, by simp⟩, ?_, ⟨by omega, by omega, by omega, by simp⟩, by simp, by simp⟩
 · exact (e0.below ((Below.refl _ _).alloc (Nat.le_refl _) _) e0.lt).below ((Below.refl _ _).alloc (Nat.le_refl _) _) (by simp; omega)
 · exact e1.below ((Below.refl _ _).alloc (Nat.le_refl _) _) e1.lt
 · intro x v k h; cases h
 · intro x y v u k h; cases h
 · intro k h; simp; omega
def HasOut (b : Bool) (w : World) (e : Ending) (w' : World) : Prop := e = .returned (.bool b) ∧ Below w.heap.size w w'
set_option maxRecDepth 100000 in
theorem has_any (g : Gav) (w : World) {F : Nat → Prop} {b : Nat} {es : List (SEnt × Nat)} {r a : Int} (h : StoreAt F w b es r a) :
    Calls Tryz.prog 9 #[ptr b, .agg #[.string g.group, .string g.artifact, .string g.version]] w (HasOut (hasG es g) w) := by
 obtain ⟨me, mv, L, cl, V, cv, h⟩ := h
 have hgt := h.get g
 have hlt := h.box.lt
 have HS := Lib.hid h
 clear h
 unfold ptr
 go_enter Tryz.func9, Tryz.ntmps9
 go_upto_region 1 with fail
 refine wp_world ?_
 intro W hW
 have hx : Box W w.heap.size [.string g.group, .string g.artifact, .string g.version] := by rw [hW]; exact Box.new w (gavC g) _ _ rfl
 have hb : Below w.heap.size w W := by rw [hW]; exact (Below.refl _ _).alloc (Nat.le_refl _) _
 clear hW
 have HX := Lib.hid hx
 have HB := Lib.hid hb
 obtain ⟨x0, x1, x2⟩ := bxc3 hx
 have lx := hx.lt
 have b0 := (HS.out.box.below hb hlt).cell 0 _ rfl
 have lb := (HS.out.box.below hb hlt).lt
 have hm := HS.out.ents.below hb HS.out.ents.lt
 have hl : ∀ x : Later W, (Instr.lookup 65 (.map (some me)) (.agg #[.string g.group, .string g.artifact, .string g.version]) false).run Tryz.prog x.at_ = .ok ((mGet L g).getD (.pointer none)) x.at_ := fun x => look_ent g (hm.below x.below hm.lt)
 clear hx hb hm HX
 have hLC := @Later.cellsS W
 rw [hgt] at hl
 clear hgt
 cases hf : es.find? fun e => decide (g = e.1.gav) with
 | none =>
  rw [hf] at hl
  simp only [Option.map_none, Option.getD_none] at hl
  have HG : Hid (hasG es g = false) := by show _ = _; unfold hasG; rw [hf]; rfl
  clear hf
  refine region_laterS (by kernel_rfl) (by kernel_rfl) ?_
  repeat (go_big_quiet_step (fail))
  refine wpQuiet_nil ?_
  rintro _ ⟨nx, rfl⟩
  have HN := Lib.hid nx.below
  generalize nx.at_ = wn at *
  clear hl hLC x0 x1 x2 lx b0 lb
  go_wp2
  go_ret
  exact ⟨by rw [HG.out]; rfl, HB.out.trans (HN.out.mono HB.out.size)⟩
 | some e =>
  rw [hf] at hl
  simp only [Option.map_some, Option.getD_some, ptr] at hl
  have HG : Hid (hasG es g = true) := by show _ = _; unfold hasG; rw [hf]; rfl
  clear hf
  refine region_laterS (by kernel_rfl) (by kernel_rfl) ?_
  repeat (go_big_quiet_step (fail))
  refine wpQuiet_nil ?_
  rintro _ ⟨nx, rfl⟩
  have HN := Lib.hid nx.below
  generalize nx.at_ = wn at *
  clear hl hLC x0 x1 x2 lx b0 lb
  go_wp2
  go_ret
  exact ⟨by rw [HG.out]; rfl, HB.out.trans (HN.out.mono HB.out.size)⟩
theorem has_nil (g : Gav) (w : World) : Calls Tryz.prog 9 #[.pointer none, .agg #[.string g.group, .string g.artifact, .string g.version]] w (HasOut false w) := by
 go_enter Tryz.func9, Tryz.ntmps9
 go_upto_region 1 with fail
 refine wp_world ?_
 intro W hW
 have hb : Below w.heap.size w W := by rw [hW]; exact (Below.refl _ _).alloc (Nat.le_refl _) _
 clear hW
 have HB := Lib.hid hb
 clear hb
 refine region_laterS (by kernel_rfl) (by kernel_rfl) ?_
 repeat (go_big_quiet_step (fail))
 refine wpQuiet_nil ?_
 rintro _ ⟨nx, rfl⟩
 have HN := Lib.hid nx.below
 generalize nx.at_ = wn at *
 go_wp2
 go_ret
 exact ⟨rfl, HB.out.trans (HN.out.mono HB.out.size)⟩
theorem len_nil (w : World) : Calls Tryz.prog 18 #[.pointer none] w fun e w' => e = .returned (.int .i64 0) ∧ Below w.heap.size w w' := by
 go_enter Tryz.func18, Tryz.ntmps18
 go_wp2_with fail
 go_ret
 exact ⟨rfl, Below.refl _ _⟩
set_option maxRecDepth 100000 in
theorem id_any (g : Gav) (w : World) : Calls Tryz.prog 35 #[.agg #[.string g.group, .string g.artifact, .string g.version]] w fun e w' => e = .returned (.agg #[.string g.group, .string g.artifact]) ∧ Below w.heap.size w w' := by
 go_enter Tryz.func35, Tryz.ntmps35
 go_wp2_with fail
 refine bodyPost_ret (v := .agg #[.string g.group, .string g.artifact]) (by simp [results, Tryz.results35, go_sem]) rfl ?_
 refine ⟨rfl, ?_⟩
 exact ((Below.refl _ _).alloc (Nat.le_refl _) _).alloc (by simp) _

end Go.Proofs.YtphaeegbmfpcgaaGreatDoor
