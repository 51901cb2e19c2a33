/- The builder's memory, step by step; no program in sight. -/
import Derived.Test.YtphaeegbmfpcgaaGreatDoorFB04
import Derived.Test.YtphaeegbmfpcgaaGreatDoorFB02
import Derived.Test.YtphaeegbmfpcgaaGreatDoorFB01
import Derived.StillTailTactics

namespace Go.Proofs.YtphaeegbmfpcgaaGreatDoor
open Go Go.RowKit

/-- The builder: what is open or has ended, the pointers, the other three variables. -/
structure Core (NT PT : TypeId) (lo : Nat) (w : World) (B : Nat) (st : List Fr) (r : Option Tr) (X : Nat → Prop) (ov : Value) (ps : List (Nat × Nat)) (c d t : Value) : Prop where
 xB : X B
 loB : lo ≤ B
 xlo : ∀ k, k < lo → X k
 xlt : ∀ k, X k → lo ≤ k → B ≤ k ∧ k < w.heap.size
 free : ∀ k, X k → lo ≤ k → ∀ j, w.frozen? ⟨k, j, none⟩ = false
 box : ∃ u0 u1 u2 u3, Box w B [u0, u1, u2, u3, ov, c, d, t]
 opn : OpenSl PT B w ov ps
 xo : ∀ g, ov.ownBlock = some g → X g
 tree : TreeOf NT B X w st r ps
variable {NT PT : TypeId} {lo : Nat} {w : World} {B : Nat} {st : List Fr} {r : Option Tr} {X : Nat → Prop} {ov : Value} {ps : List (Nat × Nat)} {c d t : Value}
theorem Core.lt (h : Core NT PT lo w B st r X ov ps c d t) : B < w.heap.size := (h.xlt B h.xB h.loB).2
theorem Core.c4 (h : Core NT PT lo w B st r X ov ps c d t) : w.cell? ⟨B, 4, none⟩ = some ov := by obtain ⟨_, _, _, _, hb⟩ := h.box; exact hb.cell 4 _ rfl
theorem Core.c5 (h : Core NT PT lo w B st r X ov ps c d t) : w.cell? ⟨B, 5, none⟩ = some c := by obtain ⟨_, _, _, _, hb⟩ := h.box; exact hb.cell 5 _ rfl
theorem Core.c6 (h : Core NT PT lo w B st r X ov ps c d t) : w.cell? ⟨B, 6, none⟩ = some d := by obtain ⟨_, _, _, _, hb⟩ := h.box; exact hb.cell 6 _ rfl
theorem Core.c7 (h : Core NT PT lo w B st r X ov ps c d t) : w.cell? ⟨B, 7, none⟩ = some t := by obtain ⟨_, _, _, _, hb⟩ := h.box; exact hb.cell 7 _ rfl
theorem Core.f (h : Core NT PT lo w B st r X ov ps c d t) (j : Nat) : w.frozen? ⟨B, j, none⟩ = false := h.free B h.xB h.loB j
theorem Core.xsize (h : Core NT PT lo w B st r X ov ps c d t) : ∀ k, X k → k < w.heap.size := fun k hk => by
 by_cases hl : lo ≤ k
 · exact (h.xlt k hk hl).2
 · have := h.lt; have := h.loB; omega
theorem Core.len (h : Core NT PT lo w B st r X ov ps c d t) : ps.length = st.length := h.tree.len
theorem Core.init (w : World) (T : TypeId) (hw : w.heap.size = B) (hl : lo ≤ B) (u0 u1 u2 u3 : Value) : Core NT PT lo (w.alloc (.cells #[u0, u1, u2, u3, .slice none 0 0, c, d, t] T)) B [] none (fun k => k = B ∨ k < lo) (.slice none 0 0) [] c d t := by
 have hb := Box.new w [u0, u1, u2, u3, .slice none 0 0, c, d, t] T B hw
 exact ⟨.inl rfl, hl, fun k hk => .inr hk, fun k hk hl => by
  rcases hk with rfl | hk
  · exact ⟨Nat.le_refl _, hb.lt⟩
  · omega, fun k hk hl j => by
  rcases hk with rfl | hk
  · exact hb.free j
  · omega, ⟨u0, u1, u2, u3, hb⟩, .inl ⟨rfl, rfl⟩, by simp [Value.ownBlock], .empty⟩
/-- Nothing that was there has turned. -/
theorem Core.below (h : Core NT PT lo w B st r X ov ps c d t) {w' : World} (hb : Below w.heap.size w w') : Core NT PT lo w' B st r X ov ps c d t := by
 have hlt : ∀ k, X k → k < w.heap.size := h.xsize
 refine ⟨h.xB, h.loB, h.xlo, fun k hk hl => ⟨(h.xlt k hk hl).1, Nat.lt_of_lt_of_le (hlt k hk) hb.size⟩, fun k hk hl j => (hb.frozen (p := ⟨k, j, none⟩) (hlt k hk)).trans (h.free k hk hl j), ?_, h.opn.heap fun g hg => hb.block g (hlt g (h.xo g hg)), h.xo,
  h.tree.keep (KeptX.below hb) (fun _ _ h => h) (fun _ _ h => h) (fun j _ => hb.cell (p := ⟨B, j, none⟩) h.lt) (fun k n _ hr => hb.block k hr.lt)⟩
 obtain ⟨u0, u1, u2, u3, hx⟩ := h.box
 exact ⟨u0, u1, u2, u3, hx.below hb hx.lt⟩
theorem Core.drewN (h : Core NT PT lo w B st r X ov ps c d t) (n : Nat) : Core NT PT lo (w.drewN n) B st r X ov ps c d t := h.below (belowN (Below.refl _ _) n)
theorem setCell_block (w : World) (b j : Nat) (v : Value) {k : Nat} (hk : k ≠ b) : (w.setCell ⟨b, j, none⟩ v).heap[k]? = w.heap[k]? := heap_setCell_other w ⟨b, j, none⟩ k v hk
theorem setCell_far (w : World) (b j : Nat) (v : Value) {k i : Nat} (hk : k ≠ b ∨ i ≠ j) : (w.setCell ⟨b, j, none⟩ v).cell? ⟨k, i, none⟩ = w.cell? ⟨k, i, none⟩ :=
 World.cell?_setCell_other w _ _ _ (by intro e; simp only [Addr.mk.injEq] at e; rcases hk with h | h <;> omega)
theorem setCell_same (w : World) (b j : Nat) (v : Value) {u : Value} (h : w.cell? ⟨b, j, none⟩ = some u) : (w.setCell ⟨b, j, none⟩ v).cell? ⟨b, j, none⟩ = some v := World.cell?_setCell_same w _ _ h
theorem keptX_set (w : World) (b j : Nat) (v : Value) (hX : X b) : KeptX X w (w.setCell ⟨b, j, none⟩ v) := KeptX.grown (setCell_grown w b j v) (fun g hg => by cases hg; exact hX)
/-- One of the other variables is stored. -/
theorem Core.setTree (h : Core NT PT lo w B st r X ov ps c d t) {j : Nat} (hj : 4 ≤ j) (v : Value) : TreeOf NT B X (w.setCell ⟨B, j, none⟩ v) st r ps :=
 h.tree.keep (keptX_set w B j v h.xB) (fun _ _ h => h) (fun _ _ h => h) (fun i hi => setCell_far w B j v (.inr (by omega))) (fun k n hk _ => setCell_block w B j v hk)
theorem Core.setRest (h : Core NT PT lo w B st r X ov ps c d t) {j : Nat} (hj : 5 ≤ j) (v : Value) {c' d' t' : Value} (hb : ∀ u0 u1 u2 u3, [u0, u1, u2, u3, ov, c, d, t].set j v = [u0, u1, u2, u3, ov, c', d', t']) : Core NT PT lo (w.setCell ⟨B, j, none⟩ v) B st r X ov ps c' d' t' := by
 refine ⟨h.xB, h.loB, h.xlo, fun k hk hl => ⟨(h.xlt k hk hl).1, by simpa [World.setCell] using (h.xlt k hk hl).2⟩, fun k hk hl i => by rw [World.frozen?_setCell]; exact h.free k hk hl i, ?_, h.opn.heap fun g hg => setCell_block w B j v (by have := (h.opn.rowOf hg).1; omega), h.xo, h.setTree (by omega) v⟩
 obtain ⟨u0, u1, u2, u3, hx⟩ := h.box
 exact ⟨u0, u1, u2, u3, by rw [← hb]; exact hx.set j v⟩
theorem Core.set5 (h : Core NT PT lo w B st r X ov ps c d t) (v : Value) : Core NT PT lo (w.setCell ⟨B, 5, none⟩ v) B st r X ov ps v d t := h.setRest (by omega) v (fun _ _ _ _ => rfl)
theorem Core.set6 (h : Core NT PT lo w B st r X ov ps c d t) (v : Value) : Core NT PT lo (w.setCell ⟨B, 6, none⟩ v) B st r X ov ps c v t := h.setRest (by omega) v (fun _ _ _ _ => rfl)
theorem Core.set7 (h : Core NT PT lo w B st r X ov ps c d t) (v : Value) : Core NT PT lo (w.setCell ⟨B, 7, none⟩ v) B st r X ov ps c d v := h.setRest (by omega) v (fun _ _ _ _ => rfl)
/-- The blocks when one slice's block has given way to another's. -/
def Swap (X : Nat → Prop) (v v' : Value) (k : Nat) : Prop := (X k ∧ v.ownBlock ≠ some k) ∨ v'.ownBlock = some k
theorem Swap.old {v v' : Value} (hX : ∀ g, v.ownBlock = some g → X g) (hv : v'.ownBlock = v.ownBlock ∨ ∀ k, v'.ownBlock = some k → w.heap.size ≤ k) {k : Nat} (hk : k < w.heap.size) (h : Swap X v v' k) : X k := by
 rcases h with h | h
 · exact h.1
 · rcases hv with e | e
   · exact hX k (e.symm.trans h)
   · have := e k h; omega
theorem Swap.free {v v' : Value} {w1 : World} {E : TypeId} (hX : ∀ k, X k → k < w.heap.size) (hf : ∀ k, X k → lo ≤ k → ∀ j, w.frozen? ⟨k, j, none⟩ = false) (hg : w.grownBy w1 v.ownBlock) (hv : ∀ k, v'.ownBlock = some k → ∃ m, Row w1 k E m) {k : Nat} (h : Swap X v v' k) (hl : lo ≤ k) (j : Nat) : w1.frozen? ⟨k, j, none⟩ = false := by
 rcases h with h | h
 · exact (World.frozen?_of_block (by exact hg.block k (hX k h.1) (fun e => h.2 e.symm))).trans (hf k h.1 hl j)
 · obtain ⟨m, h3⟩ := hv k h
   exact h3.free j
/-- The innermost element's kids are appended to and stored. -/
theorem Core.kid {f : Fr} {fs : List Fr} {b o : Nat} {L : List TrV} {av kv : Value} {qs : List (Nat × Nat)} (hNP : NT ≠ PT) (h : Core NT PT lo w B (f :: fs) none X ov (qs.reverse ++ [(b, o)]) c d t) (inn : Inner NT X w b o f L av kv) (up : Up NT B X w b o fs qs)
    {w1 : World} {v' : Value} {y : TrV} (hy : NodeX X w y.1 y.2.1 y.2.2) (hown : Owns (b + 1) NT 4 trC w1 v' (L ++ [y])) (hg : w.grownBy w1 kv.ownBlock) (hv : v'.ownBlock = kv.ownBlock ∨ ∀ k, v'.ownBlock = some k → w.heap.size ≤ k) :
    Inner NT (Swap X kv v') (w1.setCell ⟨b, o + 2, none⟩ v') b o (f.add y.1) (L ++ [y]) av v' ∧ Up NT B (Swap X kv v') (w1.setCell ⟨b, o + 2, none⟩ v') b o fs qs ∧
     Core NT PT lo (w1.setCell ⟨b, o + 2, none⟩ v') B (f.add y.1 :: fs) none (Swap X kv v') ov (qs.reverse ++ [(b, o)]) c d t := by
 have hge := up.ge
 have hlt : ∀ k, X k → k < w.heap.size := h.xsize
 have hbl := hlt b inn.xb
 have hkb : ∀ g, kv.ownBlock = some g → b < g := fun g hg => (inn.own.rowOf hg).1
 have hne : ∀ k, k ≤ b → some k ≠ kv.ownBlock := fun k hk e => by have := hkb k e.symm; omega
 have hblk : ∀ k, k ≤ b → w1.heap[k]? = w.heap[k]? := fun k hk => hg.block k (by omega) (hne k hk)
 have hk1 : KeptX X w w1 := KeptX.grown hg inn.blk
 have hk2 : KeptX X w (w1.setCell ⟨b, o + 2, none⟩ v') := hk1.trans (keptX_set w1 b (o + 2) v' inn.xb)
 have hY : ∀ k, k < w.heap.size → Swap X kv v' k → X k := fun k hk hx => Swap.old inn.blk hv hk hx
 have hkeep : ∀ k, k ≤ b → X k → Swap X kv v' k := fun k hk hx => .inl ⟨hx, fun e => hne k hk e.symm⟩
 have hfar : ∀ k i, k ≤ b → (k ≠ b ∨ i ≠ o + 2) → (w1.setCell ⟨b, o + 2, none⟩ v').cell? ⟨k, i, none⟩ = w.cell? ⟨k, i, none⟩ := fun k i hk hi =>
  (setCell_far w1 b (o + 2) v' hi).trans (World.cell?_of_block (hblk k hk))
 have hinn : Inner NT (Swap X kv v') (w1.setCell ⟨b, o + 2, none⟩ v') b o (f.add y.1) (L ++ [y]) av v' := by
  refine ⟨fun j u hu => ?_, inn.att.keep hk2 hY, hown.keptR (setCell_grown _ _ _ _) (by omega), by simp [inn.is, Fr.add], fun z hz => ?_, fun g hgk => .inr hgk, hkeep b (Nat.le_refl _) inn.xb⟩
  · by_cases hj : j = 2
    · subst hj
      simp [nodeC] at hu
      subst hu
      exact setCell_same w1 b (o + 2) v' ((World.cell?_of_block (hblk b (Nat.le_refl _))).trans (inn.cells 2 _ rfl))
    · rw [hfar b (o + j) (Nat.le_refl _) (.inr (by omega))]
      refine inn.cells j u ?_
      rw [← hu]
      unfold nodeC
      match j, hj with
      | 0, _ => rfl
      | 1, _ => rfl
      | 3, _ => rfl
      | j + 4, _ => rfl
  · rcases List.mem_append.1 hz with hz | hz
    · exact (inn.nodes z hz).keep hk2 hY
    · obtain rfl := List.mem_singleton.1 hz
      exact hy.keep hk2 hY
 have hup : Up NT B (Swap X kv v') (w1.setCell ⟨b, o + 2, none⟩ v') b o fs qs := by
  refine up.keep hk2 hY (fun k hkb' _ hx => hkeep k (by omega) hx) (fun hbB j _ => hfar B j hge (.inl (by omega))) (fun k n hkb' _ _ j => hfar k j (by omega) (.inl (by omega))) (fun j hj => hfar b j (Nat.le_refl _) (.inr (by omega))) (fun k n hkb' _ hr => (hr.kept (hblk k hkb')).setCell _ _ _)
 have hob : ∀ g, ov.ownBlock = some g → (w1.setCell ⟨b, o + 2, none⟩ v').heap[g]? = w.heap[g]? := by
  intro g hgo
  obtain ⟨h1, n, h2⟩ := h.opn.rowOf hgo
  have hgb : g ≠ b := by
   rintro rfl
   rcases up.place with ⟨rfl, -⟩ | ⟨-, m, h3⟩
   · omega
   · exact hNP (h3.type h2)
  rw [setCell_block _ _ _ _ hgb]
  refine hg.block g h2.lt (fun e => ?_)
  obtain ⟨-, m, h3⟩ := inn.own.rowOf e.symm
  exact hNP (h3.type h2)
 refine ⟨hinn, hup, hkeep B hge h.xB, h.loB, fun k hk => hkeep k (by have := h.loB; omega) (h.xlo k hk), fun k hk hl => ?_, fun k hk hl j => ?_, ?_, h.opn.heap hob, fun g hgo => .inl ⟨h.xo g hgo, fun e => ?_⟩, .inside _ _ _ hinn hup⟩
 · rcases hk with hk | hk
   · exact ⟨(h.xlt k hk.1 hl).1, by rw [World.size_setCell]; exact Nat.lt_of_lt_of_le (hlt k hk.1) hg.size⟩
   · have := hown.lt k hk
     exact ⟨by omega, by rw [World.size_setCell]; exact this.2⟩
 · rw [World.frozen?_setCell]
   exact Swap.free (E := NT) hlt (fun k hk hl => h.free k hk hl) hg (fun k hk => (hown.rowOf hk).2) hk hl j
 · obtain ⟨u0, u1, u2, u3, hx⟩ := h.box
   have hx1 : Box w1 B [u0, u1, u2, u3, ov, c, d, t] := hx.grown hg (hne B hge)
   rcases up.place with ⟨rfl, rfl, -⟩ | ⟨h1, -⟩
   · exact ⟨u0, u1, v', u3, hx1.set 2 v'⟩
   · exact ⟨u0, u1, u2, u3, hx1.grownB (setCell_grown _ _ _ _) (by omega)⟩
 · obtain ⟨-, n, h2⟩ := h.opn.rowOf hgo
   obtain ⟨-, m, h3⟩ := inn.own.rowOf e
   exact hNP (h3.type h2)
/-- The pointers are appended to and stored: what is open meanwhile is as it was. -/
theorem Core.point (hNP : NT ≠ PT) {st' : List Fr} {r' : Option Tr} {p : Nat × Nat} (h : Core NT PT lo w B st r X ov ps c d t) (ht : TreeOf NT B X w st' r' (ps ++ [p])) {w1 : World} {ov' : Value} (hown : Owns (B + 1) PT 1 ptC w1 ov' (ps ++ [p])) (hg : w.grownBy w1 ov.ownBlock)
    (hv : ov'.ownBlock = ov.ownBlock ∨ ∀ k, ov'.ownBlock = some k → w.heap.size ≤ k) : Core NT PT lo (w1.setCell ⟨B, 4, none⟩ ov') B st' r' (Swap X ov ov') ov' (ps ++ [p]) c d t := by
 have hlt : ∀ k, X k → k < w.heap.size := h.xsize
 have hBo : some B ≠ ov.ownBlock := fun e => by have := (h.opn.rowOf e.symm).1; omega
 have hk1 : KeptX X w w1 := KeptX.grown hg h.xo
 have hk2 : KeptX X w (w1.setCell ⟨B, 4, none⟩ ov') := hk1.trans (keptX_set w1 B 4 ov' h.xB)
 have hY : ∀ k, k < w.heap.size → Swap X ov ov' k → X k := fun k hk hx => Swap.old h.xo hv hk hx
 have hrow : ∀ k n, Row w k NT n → ov.ownBlock ≠ some k := by
  intro k n hr e
  obtain ⟨-, m, h3⟩ := h.opn.rowOf e
  exact hNP (hr.type h3)
 have hB1 : w1.heap[B]? = w.heap[B]? := hg.block B h.lt hBo
 refine ⟨.inl ⟨h.xB, fun e => hBo e.symm⟩, h.loB, fun k hk => .inl ⟨h.xlo k hk, fun e => by have := (h.opn.rowOf e).1; have := h.loB; omega⟩, fun k hk hl => ?_, fun k hk hl j => ?_, ?_, (OpenSl.ofOwns hown).heap fun g hgo => setCell_block w1 B 4 ov' (by have := (hown.rowOf hgo).1; omega), fun g hgo => .inr hgo,
  ht.keep hk2 hY (fun k hk hx => .inl ⟨hx, fun e => ?_⟩) (fun i hi => (setCell_far w1 B 4 ov' (.inr (by omega))).trans (World.cell?_of_block hB1)) (fun k n hk hr => (setCell_block w1 B 4 ov' hk).trans (hg.block k hr.lt (fun e => hrow k n hr e.symm)))⟩
 · rcases hk with hk | hk
   · exact ⟨(h.xlt k hk.1 hl).1, by rw [World.size_setCell]; exact Nat.lt_of_lt_of_le (hlt k hk.1) hg.size⟩
   · have := hown.lt k hk
     exact ⟨by omega, by rw [World.size_setCell]; exact this.2⟩
 · rw [World.frozen?_setCell]
   exact Swap.free (E := PT) hlt (fun k hk hl => h.free k hk hl) hg (fun k hk => (hown.rowOf hk).2) hk hl j
 · obtain ⟨u0, u1, u2, u3, hx⟩ := h.box
   exact ⟨u0, u1, u2, u3, (hx.grown hg hBo).set 4 ov'⟩
 · rcases hk with rfl | ⟨n, hr⟩
   · exact hBo e.symm
   · exact hrow k n hr e
theorem nodeC_get {n : Bs} {av kv : Value} {x : Bs} {j : Nat} {u : Value} (h : (nodeC n av kv x)[j]? = some u) : j < 4 := (List.getElem?_eq_some_iff.1 h).1
theorem flat_at (L : List TrV) (y : TrV) {j : Nat} {u : Value} (h : (trC y)[j]? = some u) : ((L ++ [y]).flatMap trC)[L.length * 4 + j]? = some u := by
 rw [flat_get trC_len (L ++ [y]) L.length j y (by simp) (by have := (List.getElem?_eq_some_iff.1 h).1; simpa [trC_len] using this)]; exact h
/-- The last of the innermost element's kids is open now. -/
theorem TreeOf.push {f : Fr} {fs : List Fr} {b o g cap : Nat} {L : List TrV} {av ya : Value} {qs : List (Nat × Nat)} {n : Bs} {ats : List At2} (inn : Inner NT X w b o (f.add (.mk n ats [] [])) (L ++ [((.mk n ats [] [] : Tr), ya, .slice none 0 0)]) av (.slice (some ⟨g, 0, none⟩) (L.length + 1) cap)) (up : Up NT B X w b o fs qs)
    (hy : SliceX 2 atC X w ya ats) : TreeOf NT B X w (⟨n, ats, []⟩ :: f :: fs) none (qs.reverse ++ [(b, o)] ++ [(g, L.length * 4)]) := by
 obtain ⟨-, hbg, hrow, -, hcap, hm⟩ := inn.own.row
 have hcells := inn.own.cells0
 have his : L.map (·.1) = f.kids := by
  have := inn.is
  simp only [List.map_append, List.map_cons, List.map_nil, Fr.add] at this
  exact (List.append_inj' this rfl).1
 have hi : Inner NT X w g (L.length * 4) ⟨n, ats, []⟩ [] ya (.slice none 0 0) := by
  refine ⟨fun j u hu => ?_, hy, Owns.nil, rfl, by simp, by simp [Value.ownBlock], inn.blk g rfl⟩
  have := hcells (L.length * 4 + j) u (flat_at L _ (by simpa [trC, Tr.name, Tr.text] using hu))
  rwa [Nat.zero_add] at this
 have hu : Up NT B X w g (L.length * 4) (f :: fs) ((b, o) :: qs) := by
  refine .step L av cap (by omega) rfl his (by simpa using hcap) hm hrow inn.cells (fun j u hu => hcells j u ?_) inn.att (fun y hy => inn.nodes y (by simp [hy])) inn.xb up
  rw [List.flatMap_append, List.getElem?_append_left (List.getElem?_eq_some_iff.1 hu).1]; exact hu
 have := TreeOf.inside _ _ _ hi hu
 simpa using this
/-- The root begins. -/
theorem Core.rootCells (h : Core NT PT lo w B [] none X ov ps c d t) {n : Bs} {ats : List At2} {av : Value} (hy : SliceX 2 atC X w av ats) :
    Core NT PT lo ((((w.setCell ⟨B, 0, none⟩ (.string (bs n))).setCell ⟨B, 1, none⟩ av).setCell ⟨B, 2, none⟩ (.slice none 0 0)).setCell ⟨B, 3, none⟩ (.string (bs []))) B [] none X ov ps c d t ∧
     TreeOf NT B X ((((w.setCell ⟨B, 0, none⟩ (.string (bs n))).setCell ⟨B, 1, none⟩ av).setCell ⟨B, 2, none⟩ (.slice none 0 0)).setCell ⟨B, 3, none⟩ (.string (bs []))) [⟨n, ats, []⟩] none (ps ++ [(B, 0)]) := by
 have hg : w.grownBy ((((w.setCell ⟨B, 0, none⟩ (.string (bs n))).setCell ⟨B, 1, none⟩ av).setCell ⟨B, 2, none⟩ (.slice none 0 0)).setCell ⟨B, 3, none⟩ (.string (bs []))) (some B) := (((setCell_grown _ _ _ _).trans (setCell_grown _ _ _ _)).trans (setCell_grown _ _ _ _)).trans (setCell_grown _ _ _ _)
 have hk : KeptX X w ((((w.setCell ⟨B, 0, none⟩ (.string (bs n))).setCell ⟨B, 1, none⟩ av).setCell ⟨B, 2, none⟩ (.slice none 0 0)).setCell ⟨B, 3, none⟩ (.string (bs []))) := KeptX.grown hg (fun g e => by cases e; exact h.xB)
 obtain ⟨u0, u1, u2, u3, hx⟩ := h.box
 have hx' := (((hx.set 0 (.string (bs n))).set 1 av).set 2 (.slice none 0 0)).set 3 (.string (bs []))
 have hp : ps = [] := List.eq_nil_of_length_eq_zero h.len
 subst hp
 refine ⟨⟨h.xB, h.loB, h.xlo, fun k hk' hl => ⟨(h.xlt k hk' hl).1, by simpa [World.setCell] using (h.xlt k hk' hl).2⟩, fun k hk' hl i => by simp only [World.frozen?_setCell]; exact h.free k hk' hl i, ⟨_, _, _, _, hx'⟩, h.opn.heap fun g hgo => hg.block g ?_ (fun e => ?_), h.xo, .empty⟩, ?_⟩
 · obtain ⟨-, m, h3⟩ := h.opn.rowOf hgo
   exact h3.lt
 · have := (h.opn.rowOf hgo).1
   cases e; omega
 · refine TreeOf.inside (qs := []) [] av (.slice none 0 0) ⟨fun j u hu => ?_, hy.keep hk (fun _ _ h => h), Owns.nil, rfl, by simp, by simp [Value.ownBlock], h.xB⟩ .root
   have hj := nodeC_get hu
   rw [Nat.zero_add]
   refine hx'.cell j u ?_
   rw [← hu]
   match j, hj with
   | 0, _ => rfl
   | 1, _ => rfl
   | 2, _ => rfl
   | 3, _ => rfl
/-- The innermost element ends: its kids' block may be turned no more. -/
theorem TreeOf.pop {f : Fr} {fs : List Fr} {b o : Nat} {L : List TrV} {av kv : Value} {qs : List (Nat × Nat)} (inn : Inner NT X w b o f L av kv) (up : Up NT B X w b o fs qs) (n : Nat) :
    TreeOf NT B (fun k => X k ∧ kv.ownBlock ≠ some k) w (closeB f fs none n).stack (closeB f fs none n).root qs.reverse := by
 have hnode : NodeX (fun k => X k ∧ kv.ownBlock ≠ some k) w f.tree av kv :=
  .of L inn.is (inn.att.keep (KeptX.refl X w) (fun _ _ h => h.1)) (inn.own.toX trC_len (fun g hg h => h.2 hg)) (fun y hy => (inn.nodes y hy).keep (KeptX.refl X w) (fun _ _ h => h.1))
 have hkb : ∀ k, k ≤ b → kv.ownBlock ≠ some k := fun k hk e => by have := (inn.own.rowOf e).1; omega
 cases up with
 | root => exact .root av kv (by have := inn.cells; exact this) hnode
 | @step b o b' o' g fs ps L' av' cap lt ho his hcap hm row cells kids att nodes xb up =>
  subst ho
  have hcl : At4 w b 0 ((L' ++ [(f.tree, av, kv)]).flatMap trC) := by
   intro j u hu
   rw [List.flatMap_append] at hu
   by_cases hj : j < L'.length * 4
   · rw [List.getElem?_append_left (by rw [flat_len trC_len]; exact hj)] at hu
     exact kids j u hu
   · rw [List.getElem?_append_right (by rw [flat_len trC_len]; omega), flat_len trC_len] at hu
     have hu' : (trC (f.tree, av, kv))[j - L'.length * 4]? = some u := by simpa using hu
     have := inn.cells _ u hu'
     rwa [show L'.length * 4 + (j - L'.length * 4) = 0 + j by omega] at this
  have hnew : Inner NT (fun k => X k ∧ kv.ownBlock ≠ some k) w b' o' (g.add f.tree) (L' ++ [(f.tree, av, kv)]) av' (.slice (some ⟨b, 0, none⟩) (L'.length + 1) cap) := by
   refine ⟨cells, att.keep (KeptX.refl X w) (fun _ _ h => h.1), ?_, by simp [his, Fr.add], fun y hy => ?_, fun k hk => ?_, ⟨xb, hkb b' (by omega)⟩⟩
   · have := Owns.of_cells (base := b' + 1) (l := L' ++ [(f.tree, av, kv)]) trC_len (by omega) row (by simpa using hcap) hm hcl
     simpa using this
   · rcases List.mem_append.1 hy with hy | hy
     · exact (nodes y hy).keep (KeptX.refl X w) (fun _ _ h => h.1)
     · obtain rfl := List.mem_singleton.1 hy
       exact hnode
   · simp [Value.ownBlock] at hk
     subst hk
     exact ⟨inn.xb, hkb _ (Nat.le_refl _)⟩
  have := TreeOf.inside _ _ _ hnew (up.keep (Y := fun k => X k ∧ kv.ownBlock ≠ some k) (KeptX.refl X w) (fun _ _ h => h.1) (fun k hk _ hx => ⟨hx, hkb k (by omega)⟩) (fun _ _ _ => rfl) (fun _ _ _ _ _ _ => rfl) (fun _ _ => rfl) (fun _ _ _ _ h => h))
  simpa [closeB] using this
theorem Core.pop (hNP : NT ≠ PT) {f : Fr} {fs : List Fr} {b o g cap : Nat} {L : List TrV} {av kv : Value} {qs : List (Nat × Nat)} (h : Core NT PT lo w B (f :: fs) none X (.slice (some ⟨g, 0, none⟩) (qs.length + 1) cap) (qs.reverse ++ [(b, o)]) c d t) (inn : Inner NT X w b o f L av kv) (up : Up NT B X w b o fs qs) (n : Nat) :
    Core NT PT lo (w.setCell ⟨B, 4, none⟩ (.slice (some ⟨g, 0, none⟩) qs.length qs.length)) B (closeB f fs none n).stack (closeB f fs none n).root (fun k => X k ∧ kv.ownBlock ≠ some k) (.slice (some ⟨g, 0, none⟩) qs.length qs.length) qs.reverse c d t := by
 have hBk : kv.ownBlock ≠ some B := fun e => by have := (inn.own.rowOf e).1; have := up.ge; omega
 have hop : OpenSl PT B w (.slice (some ⟨g, 0, none⟩) qs.length qs.length) qs.reverse := by
  have := OpenSl.pop (ps := qs.reverse) (p := (b, o)) (g := g) (cap := cap) (by simpa using h.opn)
  simpa using this
 have hgB : g ≠ B := by have := (h.opn.rowOf (g := g) rfl).1; omega
 have hk : KeptX (fun k => X k ∧ kv.ownBlock ≠ some k) w (w.setCell ⟨B, 4, none⟩ (.slice (some ⟨g, 0, none⟩) qs.length qs.length)) := keptX_set w B 4 _ ⟨h.xB, hBk⟩
 refine ⟨⟨h.xB, hBk⟩, h.loB, fun k hk => ⟨h.xlo k hk, fun e => by have := (inn.own.rowOf e).1; have := up.ge; have := h.loB; omega⟩, fun k hk hl => ⟨(h.xlt k hk.1 hl).1, by simpa [World.setCell] using (h.xlt k hk.1 hl).2⟩, fun k hk hl i => by rw [World.frozen?_setCell]; exact h.free k hk.1 hl i, ?_, hop.heap fun k hk => setCell_block _ _ _ _ (by simp [Value.ownBlock] at hk; omega), fun k hk => ?_,
  (TreeOf.pop inn up n).keep hk (fun _ _ h => h) (fun _ _ h => h) (fun i hi => setCell_far w B 4 _ (.inr (by omega))) (fun k n hk _ => setCell_block w B 4 _ hk)⟩
 · obtain ⟨u0, u1, u2, u3, hx⟩ := h.box
   exact ⟨u0, u1, u2, u3, hx.set 4 _⟩
 · refine ⟨h.xo k hk, fun e => ?_⟩
   simp [Value.ownBlock] at hk
   subst hk
   obtain ⟨-, m, h3⟩ := inn.own.rowOf e
   obtain ⟨-, m', h4⟩ := h.opn.rowOf (g := g) rfl
   exact hNP (h3.type h4)
theorem addText_snoc (s : Bs) (l : List Tr) (n : Bs) (a : List At2) (k : List Tr) (x : Bs) : addText s (l ++ [.mk n a k x]) = l ++ [.mk n a k (x ++ s)] := by
 induction l with
 | nil => rfl
 | cons t l ih =>
  cases l with
  | nil => simp [addText]
  | cons u l => simp only [List.cons_append, addText] at ih ⊢; rw [ih]
/-- The last kid's text grows. -/
theorem Core.more (hNP : NT ≠ PT) {f : Fr} {fs : List Fr} {b o g cap : Nat} {L : List TrV} {av ya yk : Value} {qs : List (Nat × Nat)} {n x s : Bs} {a : List At2} {k : List Tr} (h : Core NT PT lo w B (f :: fs) none X ov (qs.reverse ++ [(b, o)]) c d t)
    (inn : Inner NT X w b o f (L ++ [((.mk n a k x : Tr), ya, yk)]) av (.slice (some ⟨g, 0, none⟩) (L.length + 1) cap)) (up : Up NT B X w b o fs qs) :
    Core NT PT lo (w.setCell ⟨g, L.length * 4 + 3, none⟩ (.string (bs (x ++ s)))) B (f.more s :: fs) none X ov (qs.reverse ++ [(b, o)]) c d t := by
 obtain ⟨-, hbg, hrow, -, hcap, hm⟩ := inn.own.row
 have hge := up.ge
 have hXg : X g := inn.blk g rfl
 have hk : KeptX X w (w.setCell ⟨g, L.length * 4 + 3, none⟩ (.string (bs (x ++ s)))) := keptX_set w g _ _ hXg
 have hcells := inn.own.cells0
 have hlast : w.cell? ⟨g, L.length * 4 + 3, none⟩ = some (.string (bs x)) := by
  have := hcells (L.length * 4 + 3) _ (flat_at L _ (j := 3) rfl)
  rwa [Nat.zero_add] at this
 have hrow' := hrow.setCell g (L.length * 4 + 3) (.string (bs (x ++ s)))
 have hcl : At4 (w.setCell ⟨g, L.length * 4 + 3, none⟩ (.string (bs (x ++ s)))) g 0 ((L ++ [((.mk n a k (x ++ s) : Tr), ya, yk)]).flatMap trC) := by
  intro j u hu
  rw [Nat.zero_add]
  by_cases hj : j = L.length * 4 + 3
  · subst hj
    rw [flat_at L _ (j := 3) rfl] at hu
    cases hu
    exact setCell_same w g _ _ hlast
  · rw [setCell_far w g _ _ (.inr hj)]
    have hu2 : ((L ++ [((.mk n a k x : Tr), ya, yk)]).flatMap trC)[j]? = some u := by
     rw [List.flatMap_append] at hu ⊢
     by_cases hj2 : j < L.length * 4
     · rw [List.getElem?_append_left (by rw [flat_len trC_len]; exact hj2)] at hu ⊢
       exact hu
     · rw [List.getElem?_append_right (by rw [flat_len trC_len]; omega), flat_len trC_len] at hu ⊢
       rw [← hu]
       obtain ⟨i, rfl⟩ : ∃ i, j = L.length * 4 + i := ⟨j - L.length * 4, by omega⟩
       rw [show L.length * 4 + i - L.length * 4 = i by omega]
       match i, hj with
       | 0, _ => rfl
       | 1, _ => rfl
       | 2, _ => rfl
       | i + 4, _ => rfl
    have := hcells j u hu2
    rwa [Nat.zero_add] at this
 have hnode : ∀ y ∈ L ++ [((.mk n a k (x ++ s) : Tr), ya, yk)], NodeX X (w.setCell ⟨g, L.length * 4 + 3, none⟩ (.string (bs (x ++ s)))) y.1 y.2.1 y.2.2 := by
  intro y hy
  rcases List.mem_append.1 hy with hy | hy
  · exact (inn.nodes y (by simp [hy])).keep hk (fun _ _ h => h)
  · obtain rfl := List.mem_singleton.1 hy
    obtain ⟨M, h1, h2, h3, h4⟩ := ((inn.nodes _ (by simp : ((.mk n a k x : Tr), ya, yk) ∈ L ++ [((.mk n a k x : Tr), ya, yk)])).keep (Y := X) hk (fun _ _ h => h)).parts
    exact .of M h1 h2 h3 h4
 have hinn : Inner NT X (w.setCell ⟨g, L.length * 4 + 3, none⟩ (.string (bs (x ++ s)))) b o (f.more s) (L ++ [((.mk n a k (x ++ s) : Tr), ya, yk)]) av (.slice (some ⟨g, 0, none⟩) (L.length + 1) cap) := by
  refine ⟨inn.cells.kept (fun j _ => setCell_far w g _ _ (.inl (by omega))), inn.att.keep hk (fun _ _ h => h), ?_, ?_, hnode, inn.blk, inn.xb⟩
  · have := Owns.of_cells (base := b + 1) (l := L ++ [((.mk n a k (x ++ s) : Tr), ya, yk)]) trC_len hbg hrow' (by simpa using hcap) hm hcl
    simpa using this
  · have h1 := inn.is
    simp only [List.map_append, List.map_cons, List.map_nil] at h1
    simp only [List.map_append, List.map_cons, List.map_nil, Fr.more, ← h1]
    exact (addText_snoc s _ n a k x).symm
 have hup : Up NT B X (w.setCell ⟨g, L.length * 4 + 3, none⟩ (.string (bs (x ++ s)))) b o fs qs :=
  up.keep hk (fun _ _ h => h) (fun _ _ _ h => h) (fun _ _ _ => setCell_far w g _ _ (.inl (by omega))) (fun k n hkb _ _ j => setCell_far w g _ _ (.inl (by omega))) (fun j _ => setCell_far w g _ _ (.inl (by omega))) (fun k n _ _ hr => hr.setCell _ _ _)
 refine ⟨h.xB, h.loB, h.xlo, fun k hk hl => ⟨(h.xlt k hk hl).1, by simpa [World.setCell] using (h.xlt k hk hl).2⟩, fun k hk hl i => by rw [World.frozen?_setCell]; exact h.free k hk hl i, ?_, h.opn.heap fun k hko => setCell_block _ _ _ _ (fun e => ?_), h.xo, .inside _ _ _ hinn hup⟩
 · obtain ⟨u0, u1, u2, u3, hx⟩ := h.box
   exact ⟨u0, u1, u2, u3, hx.grownB (setCell_grown _ _ _ _) (by omega)⟩
 · subst e
   obtain ⟨-, m', h4⟩ := h.opn.rowOf hko
   exact hNP (hrow.type h4)

end Go.Proofs.YtphaeegbmfpcgaaGreatDoor

/- Walks of Trim, the program's and the document's; their conditions stand in the theorems. -/

namespace Go.Proofs.YtphaeegbmfpcgaaGreatDoor
open Go Go.RowKit

def dropBack (m : Bs) : Bs := (m.reverse.dropWhile cBlank).reverse
theorem trimB_eq (l : Bs) : trimB l = dropBack (l.dropWhile cBlank) := rfl
theorem drop_span (p : UInt8 → Bool) (l : Bs) : l.drop (span p l) = l.dropWhile p := by
 induction l with
 | nil => rfl
 | cons c l ih =>
  simp only [span, List.dropWhile]
  cases p c with
  | false => simp
  | true => simpa using ih
theorem dropBack_snoc (m : Bs) (c : UInt8) : dropBack (m ++ [c]) = if cBlank c then dropBack m else m ++ [c] := by
 unfold dropBack
 rw [List.reverse_append, List.reverse_singleton, List.singleton_append, List.dropWhile_cons]
 cases cBlank c <;> simp
set_option maxHeartbeats 1000000 in
theorem spanBlank_any (s : S) (w : World) (hs : s.size ≤ 9223372036854775807) :
    Calls Tryz.prog 198 #[.string s, .func (.func 191) #[] #[]] w fun e w' => e = .returned (.int .i64 (span cBlank s.data.toList)) ∧ w = w' := by
 have hsp := span_le (cBlank) s.data.toList
 rw [size_data] at hsp
 go_enter Tryz.func198, Tryz.ntmps198
 go_wp2
 go_loop [5] (fun i => ∃ k : Nat, k ≤ s.size ∧ i = .int .i64 k ∧ Hid (span cBlank s.data.toList = k + span cBlank (s.data.toList.drop k))) (fun i => s.size - (intOf i).toNat)
 case atStart => exact ⟨0, Nat.zero_le _, rfl, by show _ = _; simp⟩
 case round =>
  obtain ⟨k, hk, rfl, H⟩ := hrel
  by_cases hlt : k < s.size
  · have HD := Lib.hid (drop_byte s k hlt)
    cases hp : cBlank s[k]
    all_goals
     have HP := Lib.hid hp
     clear hp
     go_wp2_with (go_at_call 191; refine (isBlank_any _ _).mono ?_; rintro e w' ⟨rfl, rfl⟩; rw [HP.out])
    · go_ret
      exact ⟨ret_int (by rw [H.out, HD.out]; simp [span, HP.out]), rfl⟩
    · go_round
      case rel => exact ⟨k + 1, by omega, by go_num, by show _ = _; rw [H.out, HD.out]; simp only [span, HP.out, if_true]; omega⟩
      case measure => simp [intOf]; omega
  · go_wp2
    go_ret
    exact ⟨ret_int (by rw [H.out, List.drop_of_length_le (by rw [size_data]; omega)]; simp [span]), rfl⟩
theorem ext_trim (s : S) (a b : Nat) : (s.extract a b).data.toList = (s.data.toList.drop a).take (b - a) := by
 simp [ByteArray.data_extract, Array.toList_extract, List.extract_eq_take_drop]
theorem take_last (s : S) (k : Nat) (h : s.size = k + 1) : s.data.toList = s.data.toList.take k ++ [s[k]'(by rw [h]; exact Nat.lt_succ_self k)] := by
 have h0 : s.data.toList.drop (k + 1) = [] := List.drop_of_length_le (by rw [size_data]; omega)
 have h1 : s.data.toList.drop k = s[k] :: s.data.toList.drop (k + 1) := drop_byte s k (by rw [h]; exact Nat.lt_succ_self k)
 rw [h0] at h1
 rw [← h1, List.take_append_drop]
def sizeOfV (v : Value) : Nat := match v with | .string s => s.size | _ => 0
set_option maxHeartbeats 4000000 in
theorem trim_any (s : S) (w : World) (hs : s.size ≤ 1000000000) :
    Calls Tryz.prog 162 #[.string s] w fun e w' => ∃ x : S, e = .returned (.string x) ∧ x.data.toList = trimB s.data.toList ∧ w = w' := by
 have hsp := span_le cBlank s.data.toList
 rw [size_data] at hsp
 have HE : Hid (trimB s.data.toList = dropBack ((s.extract (span cBlank s.data.toList) s.size).data.toList)) := by
  show _ = _
  rw [ext_trim, trimB_eq, ← drop_span, List.take_of_length_le (by simp)]
 have HS := Lib.hid (spanBlank_any s)
 generalize span cBlank s.data.toList = n at *
 go_enter Tryz.func162, Tryz.ntmps162
 go_wp2_with (go_at_call 198; refine (HS.out _ (by omega)).mono ?_; rintro e w' ⟨rfl, rfl⟩)
 go_loop [0] (fun v => ∃ x : S, v = .string x ∧ x.size ≤ s.size ∧ Hid (trimB s.data.toList = dropBack x.data.toList)) (fun v => sizeOfV v)
 case atStart => exact ⟨_, rfl, by simp, HE⟩
 case round =>
  obtain ⟨x, rfl, hx, HX⟩ := hrel
  by_cases h0 : x.size = 0
  · have he : x.toList.isEmpty = true := by rw [empty_data]; simpa using h0
    have hd : x.data.toList = [] := List.eq_nil_of_length_eq_zero (by rw [size_data]; exact h0)
    have HD := Lib.hid hd
    clear hd
    go_wp2
    go_ret
    exact ⟨x, rfl, by rw [HX.out, HD.out]; rfl, rfl⟩
  · obtain ⟨k, hk⟩ : ∃ k, x.size = k + 1 := ⟨x.size - 1, by omega⟩
    have he : x.toList.isEmpty = false := by rw [empty_data]; simpa using h0
    have HT := Lib.hid (take_last x k hk)
    have hkx : k < x.size := by omega
    cases hp : cBlank x[k]
    all_goals
     have HP := Lib.hid hp
     clear hp
     go_wp2_with (go_at_call 191; refine (isBlank_any _ _).mono ?_; rintro e w' ⟨rfl, rfl⟩; rw [HP.out])
    · go_ret
      exact ⟨x, rfl, by rw [HX.out, HT.out, dropBack_snoc, HP.out]; simp, rfl⟩
    · go_round
      case rel => exact ⟨_, rfl, by simp; omega, by show _ = _; rw [HX.out, HT.out, dropBack_snoc, HP.out, if_pos rfl, ext_trim]; simp⟩
      case measure => simp [sizeOfV]; omega

end Go.Proofs.YtphaeegbmfpcgaaGreatDoor

/- Walks of the builder's small functions; their conditions stand in the theorems. -/
namespace Go.Proofs.YtphaeegbmfpcgaaGreatDoor
open Go Go.RowKit

variable {lo : Nat}
theorem node_ptr : 110 ≠ 211 := by decide
/-- The pointers' last one. -/
theorem snoc_get (qs : List (Nat × Nat)) (p : Nat × Nat) : (qs.reverse ++ [p])[qs.length]? = some p := by simp
set_option maxHeartbeats 4000000 in
theorem top_any {w : World} {B : Nat} {f : Fr} {fs : List Fr} {r : Option Tr} {X : Nat → Prop} {ov : Value} {qs : List (Nat × Nat)} {b o : Nat} {c d t : Value} (h : Core 110 211 lo w B (f :: fs) r X ov (qs.reverse ++ [(b, o)]) c d t) :
    Calls Tryz.prog 126 #[.pointer (some ⟨B, 0, none⟩)] w (Qt (.pointer (some ⟨b, o, none⟩)) w) := by
 obtain ⟨g, cap, rfl, hc, hm, hg, hp⟩ := h.opn.at (snoc_get qs (b, o))
 have hlt := h.lt
 have c4 := h.c4
 have hql : (qs.reverse ++ [(b, o)]).length = qs.length + 1 := by simp
 rw [hql] at c4 hc
 generalize qs.length = n at *
 clear h hql
 have hn1 : IntKind.i64.wrap (n : Int) = n := IntWalk.i64_in _ (by unfold maxLen at hm; omega)
 have hn3 : (n : Int) < (n : Int) + 1 := by omega
 have hn4 : (0 : Int) ≤ n := by omega
 have hn2 : (n : Int) < ((n + 1 : Nat) : Int) := by omega
 go_enter Tryz.func126, Tryz.ntmps126
 go_wp2
 go_quiet (fail)
 go_wp2
 go_ret
 exact ⟨rfl, _, rfl⟩
set_option maxHeartbeats 4000000 in
theorem one_any (w : World) (B n : Nat) (c5 : w.cell? ⟨B, 5, none⟩ = some (.int .i64 n)) (hf : w.frozen? ⟨B, 5, none⟩ = false) (hn : n ≤ 1000000) :
    Calls Tryz.prog 163 #[.pointer (some ⟨B, 0, none⟩)] w fun e w' => e = .returned (.bool (decide (n + 1 ≤ 4096))) ∧ w' = w.setCell ⟨B, 5, none⟩ (.int .i64 (n + 1 : Nat)) := by
 have hw : IntKind.i64.wrap ((n : Int) + 1) = (n : Int) + 1 := IntWalk.i64_in _ (by omega)
 go_enter Tryz.func163, Tryz.ntmps163
 go_wp2
 go_ret
 refine ⟨ret_bool ?_, rfl⟩
 rw [decide_eq_decide]; omega
/-- The blocks of a world behind another one: those from B on may have turned. -/
theorem below_set {B : Nat} {w w' : World} (h : Below B w w') (b j : Nat) (v : Value) (hb : B ≤ b) : Below B w (w'.setCell ⟨b, j, none⟩ v) := h.setCell (by exact hb) v
set_option maxHeartbeats 4000000 in
set_option maxRecDepth 100000 in
theorem end_any {w : World} {B : Nat} {f : Fr} {fs : List Fr} {X : Nat → Prop} {ov : Value} {ps : List (Nat × Nat)} {c d t : Value} (h : Core 110 211 lo w B (f :: fs) none X ov ps c d t) :
    Calls Tryz.prog 125 #[.pointer (some ⟨B, 0, none⟩)] w fun e w' => e = .returned (.tuple #[]) ∧ ∃ X' ov' ps', Core 110 211 lo w' B (closeB f fs none 0).stack (closeB f fs none 0).root X' ov' ps' c (.bool (closeB f fs none 0).root.isSome) (.bool false) ∧ Below B w w' := by
 obtain ⟨b, o, L, av, kv, qs, rfl, inn, up⟩ : ∃ b o L av kv qs, ps = qs.reverse ++ [(b, o)] ∧ Inner 110 X w b o f L av kv ∧ Up 110 B X w b o fs qs := by
  cases h.tree with
  | inside L av kv inn up => exact ⟨_, _, L, av, kv, _, rfl, inn, up⟩
 obtain ⟨g, cap, rfl, hc, hm, hg, hp⟩ := h.opn.at (snoc_get qs (b, o))
 have hql : (qs.reverse ++ [(b, o)]).length = qs.length + 1 := by simp
 have hfs := up.len
 rw [hql] at h hc
 have hlt := h.lt
 have c4 := h.c4
 have f4 := h.f 4
 have c6 := h.c6
 have c7 := h.c7
 have f6 := h.f 6
 have f7 := h.f 7
 have HP := Lib.hid fun W (hW : W = w.drew) => (by rw [hW]; exact Core.pop node_ptr (h.drewN 1) (inn.keep (KeptX.below (belowN (Below.refl _ w) 1)) (fun _ _ h => h) (fun _ _ => rfl) (fun _ _ => rfl) (fun k hk => hk.elim (fun e => e ▸ inn.xb) (fun e => inn.blk k e))) (up.keep (KeptX.below (belowN (Below.refl _ w) 1)) (fun _ _ h => h) (fun _ _ _ h => h) (fun _ _ _ => rfl) (fun _ _ _ _ _ _ => rfl) (fun _ _ => rfl) (fun _ _ _ _ h => h)) 0 :
  Core 110 211 lo (W.setCell ⟨B, 4, none⟩ (.slice (some ⟨g, 0, none⟩) qs.length qs.length)) B (closeB f fs none 0).stack (closeB f fs none 0).root (fun k => X k ∧ kv.ownBlock ≠ some k) (.slice (some ⟨g, 0, none⟩) qs.length qs.length) qs.reverse c d t)
 have hroot : (closeB f fs none 0).root.isSome = decide ((qs.length : Int) = 0) := by
  rw [hfs]
  cases fs with
  | nil => rfl
  | cons g l => simp [closeB]; omega
 have HR := Lib.hid hroot
 clear h inn up hp hql hfs hroot
 generalize qs.length = n at *
 have hn1 : IntKind.i64.wrap (n : Int) = n := IntWalk.i64_in _ (by unfold maxLen at hm; omega)
 have hn3 : (n : Int) < (n : Int) + 1 := by omega
 have hn4 : (0 : Int) ≤ n := by omega
 have hn5 : n ≤ cap := by omega
 go_enter Tryz.func125, Tryz.ntmps125
 go_wp2
 go_still_tail 18, (by kernel_rfl)
 change wpList _ _ _ _ _ w.drew
 go_wp2
 go_end0
 have h1 := ((HP.out w.drew rfl).set6 (.bool (decide ((n : Int) = 0)))).set7 (.bool false)
 exact ⟨rfl, _, _, _, by rw [HR.out]; exact h1, below_set (below_set (below_set (belowN (Below.refl B w) 1) B 4 _ (Nat.le_refl _)) B 6 _ (Nat.le_refl _)) B 7 _ (Nat.le_refl _)⟩

end Go.Proofs.YtphaeegbmfpcgaaGreatDoor
