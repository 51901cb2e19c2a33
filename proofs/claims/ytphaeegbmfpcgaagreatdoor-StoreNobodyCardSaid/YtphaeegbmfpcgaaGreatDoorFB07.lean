/- The walk of the builder's letters where a text is added; its conditions stand in the theorem. -/
import Derived.Test.YtphaeegbmfpcgaaGreatDoorFB06
import Derived.Deep.RegionLawGrows
import Derived.Deep.CutRange
import Derived.Deep.CutBlock

namespace Go.Proofs.YtphaeegbmfpcgaaGreatDoor
open Go Go.RowKit

variable {lo : Nat}
theorem Core.step_kid {W : World} {B : Nat} {f : Fr} {fs : List Fr} {X : Nat → Prop} {ov : Value} {c d t : Value} {b o : Nat} {L : List TrV} {av : Value} {ao : Option Addr} {cap : Nat} {qs : List (Nat × Nat)}
    (h : Core 110 211 lo W B (f :: fs) none X ov (qs.reverse ++ [(b, o)]) c d t) (inn : Inner 110 X W b o f L av (.slice ao L.length cap)) (up : Up 110 B X W b o fs qs) {W1 : World} (hb1 : Below W.heap.size W W1)
    {g cap8 : Nat} {w8 : World} (ho : Owns (b + 1) 110 4 trC w8 (.slice (some ⟨g, 0, none⟩) (L.length + 1) cap8) (L ++ [zeroNode])) (hg : W1.grownBy w8 (Value.slice ao L.length cap).ownBlock) (hat : (Value.slice ao L.length cap).ownBlock = some g ∨ g = W1.heap.size)
    (nm : Bs) (ats : List At2) (x : Bs) (ya : Value) (hy : SliceX 2 atC X W ya ats) :
    ∃ X', Inner 110 X' (((((w8.setCell ⟨g, L.length * 4, none⟩ (.string (bs nm))).setCell ⟨g, L.length * 4 + 1, none⟩ ya).setCell ⟨g, L.length * 4 + 2, none⟩ (.slice none 0 0)).setCell ⟨g, L.length * 4 + 3, none⟩ (.string (bs x))).setCell ⟨b, o + 2, none⟩ (.slice (some ⟨g, 0, none⟩) (L.length + 1) cap8)) b o (f.add (.mk nm ats [] x)) (L ++ [((.mk nm ats [] x : Tr), ya, .slice none 0 0)]) av (.slice (some ⟨g, 0, none⟩) (L.length + 1) cap8) ∧
     Up 110 B X' (((((w8.setCell ⟨g, L.length * 4, none⟩ (.string (bs nm))).setCell ⟨g, L.length * 4 + 1, none⟩ ya).setCell ⟨g, L.length * 4 + 2, none⟩ (.slice none 0 0)).setCell ⟨g, L.length * 4 + 3, none⟩ (.string (bs x))).setCell ⟨b, o + 2, none⟩ (.slice (some ⟨g, 0, none⟩) (L.length + 1) cap8)) b o fs qs ∧
     Core 110 211 lo (((((w8.setCell ⟨g, L.length * 4, none⟩ (.string (bs nm))).setCell ⟨g, L.length * 4 + 1, none⟩ ya).setCell ⟨g, L.length * 4 + 2, none⟩ (.slice none 0 0)).setCell ⟨g, L.length * 4 + 3, none⟩ (.string (bs x))).setCell ⟨b, o + 2, none⟩ (.slice (some ⟨g, 0, none⟩) (L.length + 1) cap8)) B (f.add (.mk nm ats [] x) :: fs) none X' ov (qs.reverse ++ [(b, o)]) c d t ∧
     (∀ k, k < W.heap.size → X' k → X k) ∧ KeptX X W (((((w8.setCell ⟨g, L.length * 4, none⟩ (.string (bs nm))).setCell ⟨g, L.length * 4 + 1, none⟩ ya).setCell ⟨g, L.length * 4 + 2, none⟩ (.slice none 0 0)).setCell ⟨g, L.length * 4 + 3, none⟩ (.string (bs x))).setCell ⟨b, o + 2, none⟩ (.slice (some ⟨g, 0, none⟩) (L.length + 1) cap8)) ∧
     Below B W (((((w8.setCell ⟨g, L.length * 4, none⟩ (.string (bs nm))).setCell ⟨g, L.length * 4 + 1, none⟩ ya).setCell ⟨g, L.length * 4 + 2, none⟩ (.slice none 0 0)).setCell ⟨g, L.length * 4 + 3, none⟩ (.string (bs x))).setCell ⟨b, o + 2, none⟩ (.slice (some ⟨g, 0, none⟩) (L.length + 1) cap8)) := by
 have hsz := hb1.size
 have inn1 : Inner 110 X W1 b o f L av (.slice ao L.length cap) := inn.keep (KeptX.below hb1) (fun _ _ h => h) (fun j _ => hb1.cell (p := ⟨b, o + j, none⟩) (h.xsize b inn.xb)) (fun k hk => hb1.block k (h.xsize k (inn.blk k hk))) (fun k hk => hk.elim (fun e => e ▸ inn.xb) (fun e => inn.blk k e))
 have up1 : Up 110 B X W1 b o fs qs := up.keep (KeptX.below hb1) (fun _ _ h => h) (fun _ _ _ h => h) (fun _ j _ => hb1.cell (p := ⟨B, j, none⟩) h.lt) (fun k n hk _ hr j => hb1.cell (p := ⟨k, j, none⟩) hr.lt) (fun j _ => hb1.cell (p := ⟨b, j, none⟩) (h.xsize b inn.xb)) (fun k n _ _ hr => hr.kept (hb1.block k hr.lt))
 have h1 := h.below hb1
 have hk1 : KeptX X W W1 := KeptX.below hb1
 have hy1 : SliceX 2 atC X W1 ya ats := hy.keep hk1 (fun _ _ h => h)
 have hg4 := grown_set4 (m := L.length * 4) hg hat (.string (bs nm)) ya (.slice none 0 0) (.string (bs x))
 have hbx : ∀ k, (Value.slice ao L.length cap).ownBlock = some k → X k := inn.blk
 have hloc : (Value.slice (some ⟨g, 0, none⟩) (L.length + 1) cap8).ownBlock = (Value.slice ao L.length cap).ownBlock ∨ ∀ k, (Value.slice (some ⟨g, 0, none⟩) (L.length + 1) cap8).ownBlock = some k → W1.heap.size ≤ k := by
  rcases hat with e | e
  · exact .inl (by rw [e]; rfl)
  · exact .inr fun k hk => by cases hk; exact Nat.le_of_eq e.symm
 have hnode : NodeX X W1 (.mk nm ats [] x) ya (.slice none 0 0) := .mk [] hy1 rfl SliceX.nil (by simp)
 obtain ⟨r1, r2, r3⟩ := Core.kid node_ptr h1 inn1 up1 (y := ((.mk nm ats [] x : Tr), ya, .slice none 0 0)) hnode (ho.nodeSt nm ats x ya) hg4 hloc
 refine ⟨_, r1, r2, r3, fun k hk hx => ?_, ?_, ?_⟩
 · exact Swap.old (w := W1) hbx hloc (Nat.lt_of_lt_of_le hk hsz) hx
 · exact hk1.trans ((KeptX.grown hg4 hbx).trans (keptX_set _ b (o + 2) _ inn.xb))
 · refine below_set ?_ b (o + 2) _ up.ge
   have hB1 : Below B W W1 := hb1.mono (Nat.le_of_lt h.lt)
   refine ⟨hg4.os.trans hB1.os, hg4.tape.trans hB1.tape, hg4.output.trans hB1.output, Nat.le_trans hB1.size hg4.size, fun k hk => (hg4.block k ?_ (fun e => ?_)).trans (hB1.block k hk)⟩
   · have := h.lt; omega
   · have := (inn.own.rowOf e.symm).1; have := up.ge; omega
/-- What a region that appends a node needs of the world behind the append. -/
theorem kid_facts {W1 w8 : World} {b o g cap8 : Nat} {L : List TrV} {v : Value} {row : Option Nat} (hbl : b < W1.heap.size) (c2 : W1.cell? ⟨b, o + 2, none⟩ = some v) (f2 : W1.frozen? ⟨b, o + 2, none⟩ = false) (hrow : ∀ k, row = some k → b < k)
    (ho : Owns (b + 1) 110 4 trC w8 (.slice (some ⟨g, 0, none⟩) (L.length + 1) cap8) (L ++ [zeroNode])) (hg : W1.grownBy w8 row) :
    b < w8.heap.size ∧ w8.cell? ⟨b, o + 2, none⟩ = some v ∧ w8.frozen? ⟨b, o + 2, none⟩ = false ∧ b ≠ g ∧ g < w8.heap.size ∧ L.length + 1 ≤ cap8 ∧ cap8 ≤ maxLen := by
 have hb : w8.heap[b]? = W1.heap[b]? := hg.block b hbl (fun e => by have := hrow b e.symm; omega)
 obtain ⟨-, h2, h3, -, h5, h6⟩ := ho.row
 exact ⟨Nat.lt_of_lt_of_le hbl hg.size, (World.cell?_of_block (by exact hb)).trans c2, (World.frozen?_of_block (by exact hb)).trans f2, by omega, h3.lt, by simpa using h5, h6⟩
set_option maxRecDepth 100000 in
set_option maxHeartbeats 8000000 in
theorem lettersB_full (w : World) (B n : Nat) (f : Fr) (fs : List Fr) (r : Option Tr) (c : Nat) (X : Nat → Prop) (ov : Value) (ps : List (Nat × Nat)) (s : Bs) (h : BOf lo w B ⟨f :: fs, r, c, false⟩ n X ov ps) (hs0 : s ≠ []) (hn : n ≤ 1000000) (hc : 4096 < c + 1) :
    Calls Tryz.prog 123 #[.pointer (some ⟨B, 0, none⟩), .string (bs s)] w (StepOut lo w B (n + 1) (lettersB ⟨f :: fs, r, c, false⟩ s)) := by
 have hlt := h.core.lt
 have c4 := h.core.c4
 obtain ⟨ao, cap, hov⟩ := h.shape
 rw [hov] at c4
 simp only [List.length_cons] at c4
 obtain ⟨b, o, L, av, ao2, cap2, qs, -, hps, -⟩ := h.core.data
 have HT := Lib.hid (top_any (by have := h.core; rw [hps] at this; exact this))
 have hn1 : ((fs.length + 1 : Nat) : Int) ≠ 0 := by omega
 have H := Lib.hid h
 have hcn : c ≤ n := h.cn
 clear h hov
 have he : (bs s : S).toList.isEmpty = false := by rw [empty_data, bs_size]; simpa using hs0
 have hl : lettersB ⟨f :: fs, r, c, false⟩ s = .bad 2 := by
  cases s with
  | nil => exact absurd rfl hs0
  | cons x s => simp [lettersB, hc]
 rw [hl]
 have hd : decide (c + 1 ≤ 4096) = false := by rw [decide_eq_false_iff_not]; omega
 generalize (bs s : S) = S1 at *
 clear hl
 go_enter Tryz.func123, Tryz.ntmps123
 go_wp2_with fail
 refine HT.out.mono ?_
 rintro e w' ⟨rfl, k, rfl⟩
 have c7 := (H.out.drewN k).core.c7
 have HO := Lib.hid (one_any (w.drewN k) B c (H.out.drewN k).core.c5 ((H.out.drewN k).core.f 5) (by omega))
 rw [hd] at HO
 have hBB : Below B w (w.drewN k) := belowN (Below.refl _ _) k
 have HBW := Lib.hid hBB
 have HGW := Lib.hid (grownN w k (some B))
 have hltk : B < (w.drewN k).heap.size := hlt
 clear hBB hlt HT c4 hd
 generalize w.drewN k = W at *
 go_wp2_with fail
 refine HO.out.mono ?_
 rintro e w' ⟨rfl, rfl⟩
 go_wp2
 go_ret
 exact ⟨rfl, HGW.out.trans (setCell_grown _ _ _ _), below_set HBW.out B _ _ (Nat.le_refl _)⟩
set_option maxRecDepth 100000 in
set_option maxHeartbeats 8000000 in
theorem lettersB_add (w : World) (B n : Nat) (f : Fr) (fs : List Fr) (r : Option Tr) (c : Nat) (X : Nat → Prop) (ov : Value) (ps : List (Nat × Nat)) (s : Bs) (h : BOf lo w B ⟨f :: fs, r, c, false⟩ n X ov ps) (hs0 : s ≠ []) (hs : s.length ≤ 2000000) (hn : n ≤ 1000000) (hc : ¬ 4096 < c + 1) :
    Calls Tryz.prog 123 #[.pointer (some ⟨B, 0, none⟩), .string (bs s)] w (StepOut lo w B (n + 1) (lettersB ⟨f :: fs, r, c, false⟩ s)) := by
 have hlt := h.core.lt
 have c4 := h.core.c4
 obtain ⟨ao, cap, hov⟩ := h.shape
 rw [hov] at c4
 simp only [List.length_cons] at c4
 obtain ⟨b, o, L0, av0, ao0, cap0, qs0, -, hps, -⟩ := h.core.data
 have HT := Lib.hid (top_any (by have := h.core; rw [hps] at this; exact this))
 have hn1 : ((fs.length + 1 : Nat) : Int) ≠ 0 := by omega
 have H := Lib.hid h
 have hcn : c ≤ n := h.cn
 clear h hov
 have he : (bs s : S).toList.isEmpty = false := by rw [empty_data, bs_size]; simpa using hs0
 have hl : lettersB ⟨f :: fs, r, c, false⟩ s = .ok ⟨f.add (.mk [] [] [] s) :: fs, r, c + 1, true⟩ := by
  cases s with
  | nil => exact absurd rfl hs0
  | cons x s => simp [lettersB, hc]
 rw [hl]
 have hd : decide (c + 1 ≤ 4096) = true := by rw [decide_eq_true_iff]; omega
 obtain ⟨S1, hS1⟩ : ∃ S1 : S, S1 = bs s := ⟨_, rfl⟩
 have HS1 := Lib.hid hS1
 rw [← hS1] at he ⊢
 clear hl hS1
 go_enter Tryz.func123, Tryz.ntmps123
 go_wp2_with fail
 refine HT.out.mono ?_
 rintro e w' ⟨rfl, k, rfl⟩
 have c7 := (H.out.drewN k).core.c7
 have HO := Lib.hid (one_any (w.drewN k) B c (H.out.drewN k).core.c5 ((H.out.drewN k).core.f 5) (by omega))
 rw [hd] at HO
 have hBB : Below B w (w.drewN k) := belowN (Below.refl _ _) k
 have HBW := Lib.hid hBB
 have hltk : B < (w.drewN k).heap.size := hlt
 have hC := (H.out.drewN k).core.set5 (.int .i64 (c + 1 : Nat))
 have HC := Lib.hid hC
 clear hBB hlt HT c4 hd hC
 generalize w.drewN k = W at *
 go_wp2_with fail
 refine HO.out.mono ?_
 rintro e w' ⟨rfl, rfl⟩
 have HBW2 := Lib.hid (below_set HBW.out B 5 (.int .i64 (c + 1 : Nat)) (Nat.le_refl _))
 have hltk2 : B < (W.setCell ⟨B, 5, none⟩ (.int .i64 (c + 1 : Nat))).heap.size := by simpa [World.setCell] using hltk
 clear HBW hltk HO c7
 generalize W.setCell ⟨B, 5, none⟩ (.int .i64 (c + 1 : Nat)) = W2 at *
 obtain ⟨b', o', L, av, ao2, cap2, qs, hr, hps', inn, up, hbl, hBb, hbo, -, q2, f2⟩ := HC.out.data
 obtain ⟨rfl, rfl⟩ : b = b' ∧ o = o' := by
  rw [hps] at hps'
  have := (List.append_inj' hps' rfl).2
  simpa using this
 have hcr := HC.out
 subst hr
 rw [hps'] at hcr
 have hLn : L.length ≤ n := by
  have h1 := H.out.kd f (by simp)
  rw [← inn.is, List.length_map] at h1; exact h1
 have hLi : ((L.length : Int) : Int) < (L.length : Int) + 1 := by omega
 have hL0 : (0 : Int) ≤ (L.length : Int) := by omega
 have HK := Lib.hid fun (W1 : World) (hb1 : Below W2.heap.size W2 W1) => @Core.step_kid lo W2 B f fs X ov _ _ _ b o L av ao2 cap2 qs hcr inn up W1 hb1
 have HKB : Hid (∀ k, (Value.slice ao2 L.length cap2).ownBlock = some k → b < k) := fun k hk => (inn.own.rowOf hk).1
 have HOW := Lib.hid inn.own
 clear hps hps' hcr inn up HC
 have hown4 := Lib.hid ((HOW.out.alloc (.cells (trC zeroNode).toArray 110)).drew)
 have hbl4 : Hid (b < ((W2.alloc (.cells (trC zeroNode).toArray 110)).drew).heap.size) := by show _ < _; simp; omega
 have hb4 : Hid (Below W2.heap.size W2 ((W2.alloc (.cells (trC zeroNode).toArray 110)).drew)) := belowN ((Below.refl _ W2).alloc (Nat.le_refl _) _) 1
 have HNW : Hid (∀ j u, (trC zeroNode)[j]? = some u → ((W2.alloc (.cells (trC zeroNode).toArray 110)).drew).cell? ⟨W2.heap.size, j, none⟩ = some u) := fun j u hu => (Box.new W2 (trC zeroNode) 110 _ rfl).cell j u hu
 have hbs : Hid (b + 1 ≤ ((W2.alloc (.cells (trC zeroNode).toArray 110)).drew).heap.size) := by show _ ≤ _; simp; omega
 have hsz4 : Hid (((W2.alloc (.cells (trC zeroNode).toArray 110)).drew).heap.size = W2.heap.size + 1) := by show _ = _; simp
 have hbl5 : Hid ((L.length + 1) * 80 ≤ 140737488355328) := by show _ ≤ _; omega
 have HQ2 := Lib.hid (((hb4.out.cell (p := ⟨b, o + 2, none⟩) hbl).trans q2))
 have HF2 := Lib.hid (((hb4.out.frozen (p := ⟨b, o + 2, none⟩) hbl).trans f2))
 go_wp2
 go_region_law (first | (refine step_append_one rfl (.tmp 20) (.tmp 24) 108 rfl (b + 1) 110 Tryz.underlying108 info_node rfl (by decide) trC_len (.slice ao2 L.length cap2) L (by simp [Act.eval, Act.put]) hown4.out W2.heap.size zeroNode (by simp [Act.eval, Act.put]) HNW.out zeroNode_one hbl5.out (by decide) hbs.out (W2.heap.size + 1) hsz4.out ?_; intro g8 cap8 w8 hown8 hgrow8 hat8 hlt8; obtain ⟨x1, x2, x3, x4, x5, x6, x7⟩ := kid_facts hbl4.out HQ2.out HF2.out HKB.out hown8 hgrow8; obtain ⟨y0, z0, t0⟩ := hown8.nodeCells 0 (by decide); obtain ⟨y1, z1, t1⟩ := hown8.nodeCells 1 (by decide); obtain ⟨y2, z2, t2⟩ := hown8.nodeCells 2 (by decide); obtain ⟨y3, z3, t3⟩ := hown8.nodeCells 3 (by decide); rw [Nat.add_zero] at y0 t0; have ho9 := Lib.hid hown8; have hg9 := Lib.hid hgrow8; have ha9 := Lib.hid hat8; clear hown8 hgrow8 hat8))
 all_goals
  obtain ⟨X', -, -, r3, -, -, r6⟩ := HK.out _ hb4.out ho9.out hg9.out (by rw [hsz4.out]; exact ha9.out) [] [] s (.slice none 0 0) SliceX.nil
  rw [← HS1.out] at r3 r6
  have hsw : ∀ (W : World) (j : Nat) (u v : Value), (W.setCell ⟨b, o + 2, none⟩ u).setCell ⟨g8, j, none⟩ v = (W.setCell ⟨g8, j, none⟩ v).setCell ⟨b, o + 2, none⟩ u := fun W j u v => setCell_comm W _ _ _ _ x4
  try simp only [hsw]
  obtain ⟨W9, hW9⟩ : ∃ W9, W9 = ((((w8.setCell ⟨g8, L.length * 4, none⟩ (.string ⟨#[]⟩)).setCell ⟨g8, L.length * 4 + 1, none⟩ (.slice none 0 0)).setCell ⟨g8, L.length * 4 + 2, none⟩ (.slice none 0 0)).setCell ⟨g8, L.length * 4 + 3, none⟩ (.string S1)).setCell ⟨b, o + 2, none⟩ (.slice (some ⟨g8, 0, none⟩) (L.length + 1) cap8) := ⟨_, rfl⟩
  rw [← hW9]
  have r3' : Core 110 211 lo W9 B (f.add (.mk [] [] [] s) :: fs) none X' ov (qs.reverse ++ [(b, o)]) (.int .i64 (c + 1 : Nat)) (.bool (none : Option Tr).isSome) (.bool false) := by rw [hW9]; exact r3
  have r6' : Below B W2 W9 := by rw [hW9]; exact r6
  clear r3 r6 hW9 hsw x1 x2 x3 x4 x5 x6 x7 y0 z0 t0 y1 z1 t1 y2 z2 t2 y3 z3 t3 ho9 hg9 ha9 q2 f2 hlt8
  have c7 := r3'.c7
  have f7 := r3'.f 7
  have hlt9 := r3'.lt
  have HR := Lib.hid r3'
  have HR6 := Lib.hid r6'
  clear r3' r6'
  go_wp2
  go_ret
  refine ⟨rfl, ⟨X', ov, _, HR.out.set7 (.bool true), fun _ => ⟨_, _, f.kids, .mk [] [] [] s, rfl, rfl, ?_⟩, fun f' hf' => ?_, ?_, ?_⟩, below_set (HBW2.out.trans HR6.out) B 7 _ (Nat.le_refl _)⟩
  · show s.length ≤ _
    rw [tmax_succ]; omega
  · rcases List.mem_cons.1 hf' with rfl | hf'
    · have := H.out.kd f (by simp)
      simp [Fr.add]; omega
    · have := H.out.kd f' (by simp [hf']); omega
  · show c + 1 ≤ n + 1
    omega
  · have := H.out.sn
    simp at this ⊢; omega
theorem lettersB_any (w : World) (B n : Nat) (st : BSt) (X : Nat → Prop) (ov : Value) (ps : List (Nat × Nat)) (s : Bs) (h : BOf lo w B st n X ov ps) (hs : s.length ≤ 2000000) (hn : n ≤ 1000000) :
    Calls Tryz.prog 123 #[.pointer (some ⟨B, 0, none⟩), .string (bs s)] w (StepOut lo w B (n + 1) (lettersB st s)) := by
 obtain ⟨stack, r, c, tx⟩ := st
 cases stack with
 | nil => exact lettersB_out w B n r c tx X ov ps s h hs
 | cons f fs =>
  by_cases h0 : s = []
  · subst h0
    exact lettersB_none w B n f fs r c tx X ov ps h
  · cases tx with
    | true => exact lettersB_text w B n f fs r c X ov ps s h h0 hs hn
    | false =>
     by_cases hc : 4096 < c + 1
     · exact lettersB_full w B n f fs r c X ov ps s h h0 hn hc
     · exact lettersB_add w B n f fs r c X ov ps s h h0 hs hn hc

end Go.Proofs.YtphaeegbmfpcgaaGreatDoor

/- The walk of the builder's begin where an error is returned; its conditions stand in the theorem. -/
namespace Go.Proofs.YtphaeegbmfpcgaaGreatDoor
open Go Go.RowKit

variable {lo : Nat}
theorem info_ptr : (Tryz.prog.info? 211).map (fun i => (i.zero, i.size, i.bytes)) = some (some (.pointer none), 1, 8) := by kernel_rfl
theorem ptC_one (p : Nat × Nat) : ∀ u ∈ ptC p, u.oneCell' = true := by intro u hu; simp [ptC] at hu; subst hu; rfl
/-- The pointers are appended to, as a step of a region that draws. -/
theorem step_append_open {ops : Array Oper} {o : Oper} {a : Act} {w : World} {K : Act → World → Prop} {Q : Exit → Act → World → Prop} {E : Prop} (hgd : o.guard = none) (s x : Operand)
    (ho : o.op = .call { callee := .builtin .append, args := #[s, x], argTypes := #[153, 153] }) {B : Nat} (ov : Value) (ps : List (Nat × Nat)) (hs : a.eval s = ov) (hopn : OpenSl 211 B w ov ps) (H : Nat) (p : Nat × Nat) (hx : a.eval x = .slice (some ⟨H, 0, none⟩) 1 1)
    (hnew : w.cell? ⟨H, 0, none⟩ = some (.pointer (some ⟨p.1, p.2, none⟩))) (hl : ps.length ≤ 1000000) (hB : B + 1 ≤ w.heap.size) (N : Nat) (hN : w.heap.size = N)
    (h : ∀ g cap w', Owns (B + 1) 211 1 ptC w' (.slice (some ⟨g, 0, none⟩) (ps.length + 1) cap) (ps ++ [p]) → w.grownBy w' ov.ownBlock → (ov.ownBlock = some g ∨ N ≤ g) → K (a.put o.dst (.slice (some ⟨g, 0, none⟩) (ps.length + 1) cap)) w') :
    if Region.wanted o (yielded ops a.tmps) = true then Oper.wp Tryz.prog o a w K Q else E := by
 have hnews : ∀ j u, (ptC p)[j]? = some u → w.cell? ⟨H, j, none⟩ = some u := fun j u hu => by
  cases j with
  | zero => simp [ptC] at hu; subst hu; exact hnew
  | succ j => simp [ptC] at hu
 rcases hopn.owns with hown | ⟨g, rfl, hat⟩
 · exact step_append_one hgd s x 153 ho (B + 1) 211 Tryz.underlying153 info_ptr rfl (by decide) ptC_len ov ps hs hown H p hx hnews (ptC_one p) (by omega) (by decide) hB N hN (fun g cap w' h1 h2 h3 _ => h g cap w' h1 h2 (h3.imp id fun e => by omega))
 · obtain ⟨i, hi, hz, hsize, hby⟩ := info_parts info_ptr
   refine step_append_grows hgd s x 153 ho 211 i _ 1 8 Tryz.underlying153 hi hz hsize hby rfl (by decide) (some ⟨g, 0, none⟩) ps.length ps.length (ps.flatMap ptC) hs (by simp) (flat_len ptC_len ps) (fun b hb j u hu => by cases hb; rw [Addr.add_lit]; exact hat j u hu)
    ⟨H, 0, none⟩ 1 1 (ptC p) hx rfl (fun j u hu => by rw [Addr.add_lit, Nat.zero_add]; exact hnews j u hu) (ptC_one p) (by omega) (by unfold maxLen; omega) (by omega) ?_
   intro v' w' h1 h2
   rcases h1.2 with ⟨-, h0⟩ | ⟨g2, cap2, cur, rfl, hb, hg, hrest⟩
   · omega
   · refine h g2 cap2 w' ⟨by rw [flat_len ptC_len], ?_⟩ ⟨h2.os, h2.tape, h2.output, h2.size, fun k hk _ => h2.block k hk (by simp)⟩ (.inr ?_)
     · refine .inr ⟨g2, cap2, cur, by simp, by omega, hg, by simpa using hrest.1, hrest.2.1, hrest.2.2.1, ?_⟩
       rw [List.flatMap_append]; simpa using hrest.2.2.2
     · omega
/-- What begin returns and leaves: blocks that aren't the builder's are as they were. -/
def BeginOut (lo : Nat) (X : Nat → Prop) (w : World) (B n : Nat) : StR → Ending → World → Prop
 | .ok st => fun e w' => StepOut lo w B n (.ok st) e w' ∧ KeptX X w w'
 | .bad x => StepOut lo w B n (.bad x)
def tokV (t : Tk) (av : Value) (p q r : Int) : Value := .agg #[.int .i64 t.kind, .string (bs t.name), av, .string (bs t.text), .int .i64 p, .int .i64 q, .int .i64 r]
/-- A token's attributes, in blocks ahead of B. -/
def AttB (lo B : Nat) (w : World) (av : Value) (l : List At2) : Prop := SliceX 2 atC (fun k => B ≤ k ∨ k < lo) w av l
theorem AttB.x {B : Nat} {w w' : World} {av : Value} {l : List At2} {X : Nat → Prop} (h : AttB lo B w av l) (hb : Below B w w') (hX : ∀ k, X k → B ≤ k ∨ k < lo) : SliceX 2 atC X w' av l :=
 SliceX.keep h ⟨hb.size, fun k j _ hn => hb.cell (p := ⟨k, j, none⟩) (by exact Nat.lt_of_not_le (fun e => hn (.inl e)))⟩ (fun k _ h => hX k h)
theorem AttB.below {B : Nat} {w w' : World} {av : Value} {l : List At2} (h : AttB lo B w av l) (hb : Below B w w') : AttB lo B w' av l := h.x hb (fun _ h => h)
theorem AttB.shape {B : Nat} {w : World} {av : Value} {l : List At2} (h : AttB lo B w av l) : ∃ ao cap, av = .slice ao l.length cap := SliceX.shape h
set_option maxRecDepth 100000 in
set_option maxHeartbeats 8000000 in
theorem begin_done (w : World) (B n : Nat) (st : BSt) (X : Nat → Prop) (ov : Value) (ps : List (Nat × Nat)) (h : BOf lo w B st n X ov ps) (t : Tk) (av : Value) (p q r : Int) (hr : st.root.isSome = true) :
    Calls Tryz.prog 124 #[.pointer (some ⟨B, 0, none⟩), tokV t av p q r] w (BeginOut lo X w B (n + 1) (beginB st t)) := by
 have hlt := h.core.lt
 have c6 := h.core.c6
 rw [hr] at c6
 have hl : beginB st t = .bad 16 := by unfold beginB; rw [if_pos hr]
 rw [hl]
 unfold tokV
 go_enter Tryz.func124, Tryz.ntmps124
 go_wp2
 go_ret
 exact ⟨rfl, World.grownBy_alloc _ _ _, (Below.refl _ _).alloc (by omega) _⟩
set_option maxRecDepth 100000 in
set_option maxHeartbeats 8000000 in
theorem begin_deep (w : World) (B n : Nat) (st : BSt) (X : Nat → Prop) (ov : Value) (ps : List (Nat × Nat)) (h : BOf lo w B st n X ov ps) (t : Tk) (av : Value) (p q r : Int) (hr : st.root.isSome = false) (hd : 64 ≤ st.stack.length) :
    Calls Tryz.prog 124 #[.pointer (some ⟨B, 0, none⟩), tokV t av p q r] w (BeginOut lo X w B (n + 1) (beginB st t)) := by
 have hlt := h.core.lt
 have c6 := h.core.c6
 rw [hr] at c6
 have c4 := h.core.c4
 obtain ⟨ao, cap, rfl⟩ := h.shape
 have hl : beginB st t = .bad 2 := by unfold beginB; rw [hr, if_neg (by simp), if_pos hd]
 rw [hl]
 have hdI : (64 : Int) ≤ (st.stack.length : Int) := by omega
 have hlt2 : B < (w.heap.size + 1) := by omega
 clear h
 unfold tokV
 go_enter Tryz.func124, Tryz.ntmps124
 go_wp2
 go_ret
 exact ⟨rfl, World.grownBy_alloc _ _ _, (Below.refl _ _).alloc (by omega) _⟩
set_option maxRecDepth 100000 in
set_option maxHeartbeats 8000000 in
theorem begin_full (w : World) (B n : Nat) (st : BSt) (X : Nat → Prop) (ov : Value) (ps : List (Nat × Nat)) (h : BOf lo w B st n X ov ps) (t : Tk) (av : Value) (p q r : Int) (hr : st.root.isSome = false) (hd : ¬ 64 ≤ st.stack.length) (hc : 4096 < st.count + 1) (hn : n ≤ 1000000) :
    Calls Tryz.prog 124 #[.pointer (some ⟨B, 0, none⟩), tokV t av p q r] w (BeginOut lo X w B (n + 1) (beginB st t)) := by
 have hlt := h.core.lt
 have c6 := h.core.c6
 rw [hr] at c6
 have c4 := h.core.c4
 have hcn := h.cn
 obtain ⟨ao, cap, rfl⟩ := h.shape
 have hl : beginB st t = .bad 2 := by unfold beginB; rw [hr, if_neg (by simp), if_neg hd, if_pos hc]
 rw [hl]
 have hdI : ¬ (64 : Int) ≤ (st.stack.length : Int) := by omega
 have hdd : decide (st.count + 1 ≤ 4096) = false := by rw [decide_eq_false_iff_not]; omega
 have hCW := fun o => h.core.below ((Below.refl _ w).alloc (Nat.le_refl _) o)
 have HO := Lib.hid fun o => one_any (w.alloc o) B st.count (hCW o).c5 ((hCW o).f 5) (by omega)
 rw [hdd] at HO
 clear h hCW
 unfold tokV
 go_enter Tryz.func124, Tryz.ntmps124
 go_wp2_with fail
 refine (HO.out _).mono ?_
 rintro e w' ⟨rfl, rfl⟩
 go_wp2
 go_ret
 exact ⟨rfl, (setCell_grown _ _ _ _).trans (World.grownBy_alloc _ _ _), (below_set (Below.refl B w) B _ _ (Nat.le_refl _)).alloc (by simp; omega) _⟩

end Go.Proofs.YtphaeegbmfpcgaaGreatDoor

/- The walk of the builder's begin where an element begins inside of another one; its conditions stand in the theorem. -/
namespace Go.Proofs.YtphaeegbmfpcgaaGreatDoor
open Go Go.RowKit

variable {lo : Nat}
theorem TreeOf.below {NT : TypeId} {B : Nat} {X : Nat → Prop} {w w' : World} {st : List Fr} {r : Option Tr} {ps : List (Nat × Nat)} (h : TreeOf NT B X w st r ps) (hb : Below w.heap.size w w') (hB : B < w.heap.size) : TreeOf NT B X w' st r ps :=
 h.keep (KeptX.below hb) (fun _ _ h => h) (fun _ _ h => h) (fun j _ => hb.cell (p := ⟨B, j, none⟩) hB) (fun k _ _ hr => hb.block k hr.lt)
/-- What there is behind the append of a node. -/
def KidPost (lo : Nat) (W : World) (X0 : Nat → Prop) (B b o g cap8 : Nat) (f : Fr) (fs : List Fr) (L : List TrV) (av : Value) (nm : Bs) (ats : List At2) (ya ov : Value) (qs : List (Nat × Nat)) (c d t : Value) (wx : World) : Prop :=
 ∃ X', Inner 110 X' wx b o (f.add (.mk nm ats [] [])) (L ++ [((.mk nm ats [] [] : Tr), ya, .slice none 0 0)]) av (.slice (some ⟨g, 0, none⟩) (L.length + 1) cap8) ∧ Up 110 B X' wx b o fs qs ∧
  Core 110 211 lo wx B (f.add (.mk nm ats [] []) :: fs) none X' ov (qs.reverse ++ [(b, o)]) c d t ∧ SliceX 2 atC X' wx ya ats ∧ Below B W wx ∧ KeptX X0 W wx
set_option maxRecDepth 100000 in
set_option maxHeartbeats 8000000 in
theorem begin_in (w : World) (B n : Nat) (f : Fr) (fs : List Fr) (r0 : Option Tr) (c : Nat) (tx : Bool) (X : Nat → Prop) (ov : Value) (ps : List (Nat × Nat)) (h : BOf lo w B ⟨f :: fs, r0, c, tx⟩ n X ov ps) (t : Tk) (av : Value) (p q r : Int) (hat : AttB lo B w av t.attrs)
    (hr : r0.isSome = false) (hd : ¬ 64 ≤ (f :: fs).length) (hc : ¬ 4096 < c + 1) (hn : n ≤ 1000000) :
    Calls Tryz.prog 124 #[.pointer (some ⟨B, 0, none⟩), tokV t av p q r] w (BeginOut lo X w B (n + 1) (beginB ⟨f :: fs, r0, c, tx⟩ t)) := by
 have hlt := h.core.lt
 have c6 := h.core.c6
 rw [hr] at c6
 have c4 := h.core.c4
 have hcn : c ≤ n := h.cn
 obtain ⟨ao, cap, rfl⟩ := h.shape
 have hl : beginB ⟨f :: fs, r0, c, tx⟩ t = .ok ⟨⟨t.name, t.attrs, []⟩ :: f :: fs, r0, c + 1, false⟩ := by simp only [beginB]; rw [hr, if_neg (by simp), if_neg hd, if_neg hc]
 rw [hl]
 simp only [List.length_cons] at hd c4
 have hdI : ¬ (64 : Int) ≤ ((fs.length + 1 : Nat) : Int) := by omega
 have hdJ : ¬ (64 : Int) ≤ (fs.length : Int) + 1 := by omega
 have hn1 : ((fs.length + 1 : Nat) : Int) ≠ 0 := by omega
 have hdd : decide (c + 1 ≤ 4096) = true := by rw [decide_eq_true_iff]; omega
 have hCW := fun o => h.core.below ((Below.refl _ w).alloc (Nat.le_refl _) o)
 have HCW := Lib.hid hCW
 have HXB := Lib.hid h.core.xB
 have HXO := Lib.hid h.core.xo
 have HO := Lib.hid fun o => one_any (w.alloc o) B c (hCW o).c5 ((hCW o).f 5) (by omega)
 rw [hdd] at HO
 have H := Lib.hid h
 clear h hCW hl hdd
 obtain ⟨ao3, cap3, hav⟩ := hat.shape
 have HAT := Lib.hid hat
 obtain ⟨N1, hN1⟩ : ∃ N1 : S, N1 = bs t.name := ⟨_, rfl⟩
 have HN1 := Lib.hid hN1
 unfold tokV
 rw [← hN1]
 clear hN1 hat
 subst hav
 go_enter Tryz.func124, Tryz.ntmps124
 go_wp2_with fail
 refine (HO.out _).mono ?_
 rintro e w' ⟨rfl, rfl⟩
 have x0 := (Box.new w [.int .i64 t.kind, .string N1, .slice ao3 t.attrs.length cap3, .string (bs t.text), .int .i64 p, .int .i64 q, .int .i64 r] 157 _ rfl)
 have x1 := x0.grownB (setCell_grown _ B 5 (.int .i64 (c + 1 : Nat))) (by omega)
 have hC1 := (HCW.out (.cells #[.int .i64 t.kind, .string N1, .slice ao3 t.attrs.length cap3, .string (bs t.text), .int .i64 p, .int .i64 q, .int .i64 r] 157)).set5 (.int .i64 (c + 1 : Nat))
 have hB1 : Below B w ((w.alloc (.cells #[.int .i64 t.kind, .string N1, .slice ao3 t.attrs.length cap3, .string (bs t.text), .int .i64 p, .int .i64 q, .int .i64 r] 157)).setCell ⟨B, 5, none⟩ (.int .i64 (c + 1 : Nat))) := below_set ((Below.refl B w).alloc (Nat.le_of_lt hlt) _) B _ _ (Nat.le_refl _)
 have HV1 : Hid (KeptX X w ((w.alloc (.cells #[.int .i64 t.kind, .string N1, .slice ao3 t.attrs.length cap3, .string (bs t.text), .int .i64 p, .int .i64 q, .int .i64 r] 157)).setCell ⟨B, 5, none⟩ (.int .i64 (c + 1 : Nat)))) := (KeptX.below ((Below.refl _ w).alloc (Nat.le_refl _) _)).trans (keptX_set _ B 5 _ HXB.out)
 have hs1 : ((w.alloc (.cells #[.int .i64 t.kind, .string N1, .slice ao3 t.attrs.length cap3, .string (bs t.text), .int .i64 p, .int .i64 q, .int .i64 r] 157)).setCell ⟨B, 5, none⟩ (.int .i64 (c + 1 : Nat))).heap.size = w.heap.size + 1 := by simp
 obtain ⟨a0, a1, a2⟩ := bxc3 x1
 have e4 := hC1.c4
 have el := hC1.lt
 have al := x1.lt
 have HC1 := Lib.hid hC1
 have HB1 := Lib.hid hB1
 clear x0 x1 hC1 hB1 c4 c6 HO HCW
 generalize ((w.alloc (.cells #[.int .i64 t.kind, .string N1, .slice ao3 t.attrs.length cap3, .string (bs t.text), .int .i64 p, .int .i64 q, .int .i64 r] 157)).setCell ⟨B, 5, none⟩ (.int .i64 (c + 1 : Nat))) = W1 at *
 go_wp2_with fail
 refine Calls.world ?_
 intro W2 hW2
 have hC2 : Core 110 211 lo W2 B (f :: fs) r0 X (.slice ao (f :: fs).length cap) ps (.int .i64 (c + 1 : Nat)) (.bool r0.isSome) (.bool tx) := by rw [hW2]; exact HC1.out.below ((Below.refl _ _).alloc (Nat.le_refl _) _)
 have xn : Box W2 (w.heap.size + 1) [.string N1, .slice ao3 t.attrs.length cap3, .slice none 0 0, .string ⟨#[]⟩] := by rw [hW2]; exact Box.new W1 _ _ _ hs1
 have hB2 : Below B w W2 := by rw [hW2]; exact HB1.out.alloc (Nat.le_of_lt el) _
 have HV2 : Hid (KeptX X w W2) := by show KeptX X w W2; rw [hW2]; exact HV1.out.trans (KeptX.below ((Below.refl _ _).alloc (Nat.le_refl _) _))
 clear hW2 HV1 HC1 HB1 a0 a1 a2 e4 el al hs1
 obtain ⟨b, o, L0, av0, ao0, cap0, qs0, -, hps, -⟩ := hC2.data
 have HT := Lib.hid (top_any (by rw [hps] at hC2; exact hC2))
 have HXN := Lib.hid xn
 have HC2 := Lib.hid hC2
 have HB2 := Lib.hid hB2
 clear xn hC2 hB2
 refine HT.out.mono ?_
 rintro e w' ⟨rfl, k, rfl⟩
 have hC3 := HC2.out.drewN k
 have xn := HXN.out.drewN k
 have hB3 : Below B w (W2.drewN k) := belowN HB2.out k
 have HV3 : Hid (KeptX X w (W2.drewN k)) := HV2.out.trans (KeptX.below (belowN (Below.refl _ _) k))
 clear HV2 HC2 HXN HB2 HT
 generalize W2.drewN k = W3 at *
 have HB3 := Lib.hid hB3
 clear hB3
 obtain ⟨n0, n1, n2, n3⟩ := bxc4 xn
 have nl := xn.lt
 obtain ⟨b', o', L, av, ao2, cap2, qs, hr0, hps', inn, up, hbl, hBb, hbo, -, q2, f2⟩ := hC3.data
 obtain ⟨rfl, rfl⟩ : b = b' ∧ o = o' := by
  rw [hps] at hps'
  have := (List.append_inj' hps' rfl).2
  simpa using this
 subst hr0
 rw [hps'] at hC3
 have hLn : L.length ≤ n := by
  have h1 := H.out.kd f (by simp)
  rw [← inn.is, List.length_map] at h1; exact h1
 have hqs : qs.length = fs.length := up.len
 have hsn := H.out.sn
 simp only [List.length_cons] at hsn
 have hLi : ((L.length : Int) : Int) < (L.length : Int) + 1 := by omega
 have hL0 : (0 : Int) ≤ (L.length : Int) := by omega
 have hatX : SliceX 2 atC X W3 (.slice ao3 t.attrs.length cap3) t.attrs := HAT.out.x HB3.out (fun k hk => (Nat.lt_or_ge k lo).elim .inr fun hl => .inl (hC3.xlt k hk hl).1)
 have HAX := Lib.hid hatX
 have HC3 := Lib.hid hC3
 have HK := Lib.hid fun (W1 : World) (hb1 : Below W3.heap.size W3 W1) => @Core.step_kid lo W3 B f fs X _ _ _ _ b o L av ao2 cap2 qs hC3 inn up W1 hb1
 have HKB : Hid (∀ k, (Value.slice ao2 L.length cap2).ownBlock = some k → b < k) := fun k hk => (inn.own.rowOf hk).1
 have HOW := Lib.hid inn.own
 clear hps hps' inn up hC3 hatX xn
 have hown4 := Lib.hid ((HOW.out.alloc (.cells (trC zeroNode).toArray 110)).drew)
 have hbl4 : Hid (b < ((W3.alloc (.cells (trC zeroNode).toArray 110)).drew).heap.size) := by show _ < _; simp; omega
 have hb4 : Hid (Below W3.heap.size W3 ((W3.alloc (.cells (trC zeroNode).toArray 110)).drew)) := belowN ((Below.refl _ W3).alloc (Nat.le_refl _) _) 1
 have HNW : Hid (∀ j u, (trC zeroNode)[j]? = some u → ((W3.alloc (.cells (trC zeroNode).toArray 110)).drew).cell? ⟨W3.heap.size, j, none⟩ = some u) := fun j u hu => (Box.new W3 (trC zeroNode) 110 _ rfl).cell j u hu
 have hbs : Hid (b + 1 ≤ ((W3.alloc (.cells (trC zeroNode).toArray 110)).drew).heap.size) := by show _ ≤ _; simp; omega
 have hsz4 : Hid (((W3.alloc (.cells (trC zeroNode).toArray 110)).drew).heap.size = W3.heap.size + 1) := by show _ = _; simp
 have hbl5 : Hid ((L.length + 1) * 80 ≤ 140737488355328) := by show _ ≤ _; omega
 have HQ2 := Lib.hid (((hb4.out.cell (p := ⟨b, o + 2, none⟩) hbl).trans q2))
 have HF2 := Lib.hid (((hb4.out.frozen (p := ⟨b, o + 2, none⟩) hbl).trans f2))
 go_wp2
 go_cut [60] from 53 (fun v wx => ∃ g cap8, v = .slice (some ⟨g, 0, none⟩) (L.length + 1) cap8 ∧ KidPost lo W3 X B b o g cap8 f fs L av t.name t.attrs (.slice ao3 t.attrs.length cap3) (.slice ao (f :: fs).length cap) qs (.int .i64 (c + 1 : Nat)) (.bool (none : Option Tr).isSome) (.bool tx) wx)
 case first =>
  rename_i J K' hJ hK
  go_region_law (first | (refine step_append_one rfl (.tmp 56) (.tmp 59) 108 rfl (b + 1) 110 Tryz.underlying108 info_node rfl (by decide) trC_len (.slice ao2 L.length cap2) L (by simp [Act.eval, Act.put]) hown4.out W3.heap.size zeroNode (by simp [Act.eval, Act.put]) HNW.out zeroNode_one hbl5.out (by decide) hbs.out (W3.heap.size + 1) hsz4.out ?_; intro g8 cap8 w8 hown8 hgrow8 hat8 hlt8; obtain ⟨x1, x2, x3, x4, x5, x6, x7⟩ := kid_facts hbl4.out HQ2.out HF2.out HKB.out hown8 hgrow8; obtain ⟨y0, z0, t0⟩ := hown8.nodeCells 0 (by decide); obtain ⟨y1, z1, t1⟩ := hown8.nodeCells 1 (by decide); obtain ⟨y2, z2, t2⟩ := hown8.nodeCells 2 (by decide); obtain ⟨y3, z3, t3⟩ := hown8.nodeCells 3 (by decide); rw [Nat.add_zero] at y0 t0; have ho9 := Lib.hid hown8; have hg9 := Lib.hid hgrow8; have ha9 := Lib.hid hat8; clear hown8 hgrow8 hat8))
  all_goals
   obtain ⟨X', r1, r2, r3, r4, r5, r6⟩ := HK.out _ hb4.out ho9.out hg9.out (by rw [hsz4.out]; exact ha9.out) t.name t.attrs [] (.slice ao3 t.attrs.length cap3) HAX.out
   have r7 := HAX.out.keep r5 r4
   rw [← HN1.out] at r1 r2 r3 r5 r6 r7
   have hsw : ∀ (W : World) (j : Nat) (u v : Value), (W.setCell ⟨b, o + 2, none⟩ u).setCell ⟨g8, j, none⟩ v = (W.setCell ⟨g8, j, none⟩ v).setCell ⟨b, o + 2, none⟩ u := fun W j u v => setCell_comm W _ _ _ _ x4
   try simp only [hsw]
   first | refine hK _ _ (Met.intro (hJ _ _ ?_)) | refine Met.intro (hJ _ _ ?_)
   (repeat apply Exists.intro)
   exact ⟨⟨g8, cap8, rfl, X', r1, r2, r3, r7, r6, r5⟩, rfl⟩
 case rest =>
  obtain ⟨g, cap8, rfl, X', inn, up, hcr, hyX, hB9, hV9⟩ := hcut
  have HV9 : Hid (KeptX X w wc) := HV3.out.trans hV9
  clear hV9
  have c4 := hcr.c4
  have hlt9 := hcr.lt
  have q2 := inn.cells 2 _ rfl
  have hbl9 : b < wc.heap.size := hcr.xsize b inn.xb
  obtain ⟨-, -, hrow, -, hcap8, hm8⟩ := inn.own.row
  have hgl := hrow.lt
  have hw8 : IntKind.i64.wrap (L.length : Int) = (L.length : Int) := IntWalk.i64_in _ (by omega)
  have HTP := Lib.hid (TreeOf.push inn up hyX)
  have HCR := Lib.hid hcr
  have HB9 := Lib.hid hB9
  have hcapL : L.length + 1 ≤ cap8 := by simpa using hcap8
  simp only [List.length_cons] at c4
  have hwB : Below wc.heap.size wc ((wc.alloc (.cells #[.pointer (some ⟨g, L.length * 4, none⟩)] 211)).drew) := belowN ((Below.refl _ wc).alloc (Nat.le_refl _) _) 1
  have HC4 := Lib.hid (hcr.below hwB)
  have HT4 := Lib.hid (HTP.out.below hwB hcr.lt)
  have HWB := Lib.hid hwB
  have HNP : Hid (((wc.alloc (.cells #[.pointer (some ⟨g, L.length * 4, none⟩)] 211)).drew).cell? ⟨wc.heap.size, 0, none⟩ = some (.pointer (some ⟨g, L.length * 4, none⟩))) := (Box.new wc [.pointer (some ⟨g, L.length * 4, none⟩)] 211 _ rfl).cell 0 _ rfl
  have HPL : Hid ((qs.reverse ++ [(b, o)]).length ≤ 1000000) := by show _ ≤ _; simp; omega
  have HPQ : Hid ((qs.reverse ++ [(b, o)]).length = fs.length + 1) := by show _ = _; simp [hqs]
  have HBS : Hid (B + 1 ≤ ((wc.alloc (.cells #[.pointer (some ⟨g, L.length * 4, none⟩)] 211)).drew).heap.size) := by show _ ≤ _; simp; omega
  have HSZ : Hid (((wc.alloc (.cells #[.pointer (some ⟨g, L.length * 4, none⟩)] 211)).drew).heap.size = wc.heap.size + 1) := by show _ = _; simp
  have HB4 : Hid (∀ w9 : World, ((wc.alloc (.cells #[.pointer (some ⟨g, L.length * 4, none⟩)] 211)).drew).grownBy w9 (Value.slice ao (f :: fs).length cap).ownBlock → w9.cell? ⟨B, 4, none⟩ = some (.slice ao (fs.length + 1) cap) ∧ w9.frozen? ⟨B, 4, none⟩ = false ∧ B < w9.heap.size) := by
   intro w9 hg
   have hbk : w9.heap[B]? = ((wc.alloc (.cells #[.pointer (some ⟨g, L.length * 4, none⟩)] 211)).drew).heap[B]? := hg.block B HC4.out.lt (fun e => by have := (HC4.out.opn.rowOf e.symm).1; omega)
   exact ⟨(World.cell?_of_block (by exact hbk)).trans HC4.out.c4, (World.frozen?_of_block (by exact hbk)).trans (HC4.out.f 4), Nat.lt_of_lt_of_le HC4.out.lt hg.size⟩
  have HBG : Hid (∀ w9 : World, ((wc.alloc (.cells #[.pointer (some ⟨g, L.length * 4, none⟩)] 211)).drew).grownBy w9 (Value.slice ao (f :: fs).length cap).ownBlock → Below B w w9) := by
   intro w9 hg
   have h1 : Below B w ((wc.alloc (.cells #[.pointer (some ⟨g, L.length * 4, none⟩)] 211)).drew) := (HB3.out.trans HB9.out).trans (HWB.out.mono (Nat.le_of_lt hlt9))
   exact ⟨hg.os.trans h1.os, hg.tape.trans h1.tape, hg.output.trans h1.output, Nat.le_trans h1.size hg.size, fun k hk => (hg.block k (Nat.lt_trans hk HC4.out.lt) (fun e => by have := (HC4.out.opn.rowOf e.symm).1; omega)).trans (h1.block k hk)⟩
  have HVG : Hid (∀ w9 : World, ((wc.alloc (.cells #[.pointer (some ⟨g, L.length * 4, none⟩)] 211)).drew).grownBy w9 (Value.slice ao (f :: fs).length cap).ownBlock → KeptX X w w9) := fun w9 hg => HV9.out.trans ((KeptX.below HWB.out).trans (KeptX.grown hg HXO.out))
  clear inn up hcr hyX hB9 hrow hcap8 hwB HKB HOW HK HNW hown4 hbl4 hb4 hbs hsz4 hbl5 HQ2 HF2 n0 n1 n2 n3 nl
  go_wp2
  go_region_law (first | (refine step_append_open rfl (.tmp 68) (.tmp 80) rfl (.slice ao (f :: fs).length cap) (qs.reverse ++ [(b, o)]) (by simp [Act.eval]) HC4.out.opn wc.heap.size (g, L.length * 4) (by simp [Act.eval]) HNP.out HPL.out HBS.out (wc.heap.size + 1) HSZ.out ?_; intro g9 cap9 w9 hown9 hgrow9 hat9; obtain ⟨z1, z2, z3⟩ := HB4.out w9 hgrow9; rw [HPQ.out] at hown9; have ho9 := Lib.hid hown9; have hg9 := Lib.hid hgrow9; have ha9 := Lib.hid hat9; rw [HPQ.out]; clear hown9 hgrow9 hat9))
  all_goals
   have hp := Core.point node_ptr HC4.out HT4.out ho9.out hg9.out (ha9.out.imp (fun e => e.symm) (fun e k hk => by cases hk; rw [HSZ.out]; exact e))
   have hbw := HBG.out w9 hg9.out
   have hvw := HVG.out w9 hg9.out
   have hvw2 := hvw.trans (keptX_set w9 B 4 (.slice (some ⟨g9, 0, none⟩) (fs.length + 1 + 1) cap9) HXB.out)
   have hbw2 := below_set hbw B 4 (.slice (some ⟨g9, 0, none⟩) (fs.length + 1 + 1) cap9) (Nat.le_refl _)
   clear z1 z2 z3 ho9 hg9 ha9 hbw hvw
   generalize w9.setCell ⟨B, 4, none⟩ (.slice (some ⟨g9, 0, none⟩) (fs.length + 1 + 1) cap9) = W10 at *
   have c7 := hp.c7
   have f7 := hp.f 7
   have lt10 := hp.lt
   have HP10 := Lib.hid hp
   have HBW := Lib.hid hbw2
   have HVW := Lib.hid hvw2
   clear hp hbw2 hvw2
   go_wp2
   go_ret
   refine ⟨⟨rfl, ⟨_, _, _, HP10.out.set7 (.bool false), by simp, fun f' hf' => ?_, ?_, ?_⟩, below_set HBW.out B 7 _ (Nat.le_refl _)⟩, HVW.out.trans (keptX_set _ B 7 _ HXB.out)⟩
   · rcases List.mem_cons.1 hf' with rfl | hf'
     · simp
     · have := H.out.kd f' hf'; omega
   · show c + 1 ≤ n + 1
     omega
   · simp only [List.length_cons]; omega

end Go.Proofs.YtphaeegbmfpcgaaGreatDoor

/- The walk of the builder's begin where the root begins; its conditions stand in the theorem. -/

namespace Go.Proofs.YtphaeegbmfpcgaaGreatDoor
open Go Go.RowKit

variable {lo : Nat}
set_option maxRecDepth 100000 in
set_option maxHeartbeats 8000000 in
theorem begin_root (w : World) (B n : Nat) (r0 : Option Tr) (c : Nat) (tx : Bool) (X : Nat → Prop) (ov : Value) (ps : List (Nat × Nat)) (h : BOf lo w B ⟨[], r0, c, tx⟩ n X ov ps) (t : Tk) (av : Value) (p q r : Int) (hat : AttB lo B w av t.attrs)
    (hr : r0.isSome = false) (hc : ¬ 4096 < c + 1) :
    Calls Tryz.prog 124 #[.pointer (some ⟨B, 0, none⟩), tokV t av p q r] w (BeginOut lo X w B (n + 1) (beginB ⟨[], r0, c, tx⟩ t)) := by
 have hlt := h.core.lt
 have c6 := h.core.c6
 rw [hr] at c6
 have c4 := h.core.c4
 have hcn : c ≤ n := h.cn
 obtain ⟨ao, cap, rfl⟩ := h.shape
 obtain rfl : r0 = none := by cases r0 with | none => rfl | some x => simp at hr
 have hps : ps = [] := List.eq_nil_of_length_eq_zero h.core.len
 subst hps
 have hl : beginB ⟨[], none, c, tx⟩ t = .ok ⟨⟨t.name, t.attrs, []⟩ :: [], none, c + 1, false⟩ := by simp only [beginB]; rw [if_neg (by simp), if_neg (by simp), if_neg hc]
 rw [hl]
 simp only [List.length_nil] at c4
 have hdd : decide (c + 1 ≤ 4096) = true := by rw [decide_eq_true_iff]; omega
 have hCW := fun o => h.core.below ((Below.refl _ w).alloc (Nat.le_refl _) o)
 have HCW := Lib.hid hCW
 have HXB := Lib.hid h.core.xB
 have HXO := Lib.hid h.core.xo
 have HO := Lib.hid fun o => one_any (w.alloc o) B c (hCW o).c5 ((hCW o).f 5) (by omega)
 rw [hdd] at HO
 have H := Lib.hid h
 clear h hCW hl hdd
 obtain ⟨ao3, cap3, hav⟩ := hat.shape
 have HAT := Lib.hid hat
 obtain ⟨N1, hN1⟩ : ∃ N1 : S, N1 = bs t.name := ⟨_, rfl⟩
 have HN1 := Lib.hid hN1
 unfold tokV
 rw [← hN1]
 clear hN1 hat
 subst hav
 go_enter Tryz.func124, Tryz.ntmps124
 go_wp2_with fail
 refine (HO.out _).mono ?_
 rintro e w' ⟨rfl, rfl⟩
 have x0 := (Box.new w [.int .i64 t.kind, .string N1, .slice ao3 t.attrs.length cap3, .string (bs t.text), .int .i64 p, .int .i64 q, .int .i64 r] 157 _ rfl)
 have x1 := x0.grownB (setCell_grown _ B 5 (.int .i64 (c + 1 : Nat))) (by omega)
 have hC1 := (HCW.out (.cells #[.int .i64 t.kind, .string N1, .slice ao3 t.attrs.length cap3, .string (bs t.text), .int .i64 p, .int .i64 q, .int .i64 r] 157)).set5 (.int .i64 (c + 1 : Nat))
 have hB1 : Below B w ((w.alloc (.cells #[.int .i64 t.kind, .string N1, .slice ao3 t.attrs.length cap3, .string (bs t.text), .int .i64 p, .int .i64 q, .int .i64 r] 157)).setCell ⟨B, 5, none⟩ (.int .i64 (c + 1 : Nat))) := below_set ((Below.refl B w).alloc (Nat.le_of_lt hlt) _) B _ _ (Nat.le_refl _)
 have HV1 : Hid (KeptX X w ((w.alloc (.cells #[.int .i64 t.kind, .string N1, .slice ao3 t.attrs.length cap3, .string (bs t.text), .int .i64 p, .int .i64 q, .int .i64 r] 157)).setCell ⟨B, 5, none⟩ (.int .i64 (c + 1 : Nat)))) := (KeptX.below ((Below.refl _ w).alloc (Nat.le_refl _) _)).trans (keptX_set _ B 5 _ HXB.out)
 have hs1 : ((w.alloc (.cells #[.int .i64 t.kind, .string N1, .slice ao3 t.attrs.length cap3, .string (bs t.text), .int .i64 p, .int .i64 q, .int .i64 r] 157)).setCell ⟨B, 5, none⟩ (.int .i64 (c + 1 : Nat))).heap.size = w.heap.size + 1 := by simp
 obtain ⟨a0, a1, a2⟩ := bxc3 x1
 have e4 := hC1.c4
 have el := hC1.lt
 have al := x1.lt
 have HC1 := Lib.hid hC1
 have HB1 := Lib.hid hB1
 clear x0 x1 hC1 hB1 c4 c6 HO HCW
 generalize ((w.alloc (.cells #[.int .i64 t.kind, .string N1, .slice ao3 t.attrs.length cap3, .string (bs t.text), .int .i64 p, .int .i64 q, .int .i64 r] 157)).setCell ⟨B, 5, none⟩ (.int .i64 (c + 1 : Nat))) = W1 at *
 obtain ⟨u0, u1, u2, u3, hbx⟩ := HC1.out.box
 obtain ⟨b0, b1, b2, b3⟩ := bxc4 hbx
 have bf0 := hbx.free 0
 have bf1 := hbx.free 1
 have bf2 := hbx.free 2
 have bf3 := hbx.free 3
 clear hbx
 go_wp2
 refine wp_world ?_
 intro wc hwc
 have hyX := HAT.out.x HB1.out (fun k hk => (Nat.lt_or_ge k lo).elim .inr fun hl => .inl (HC1.out.xlt k hk hl).1)
 obtain ⟨h5, h6⟩ := HC1.out.rootCells (n := t.name) hyX
 rw [← HN1.out] at h5 h6
 have hcr : Core 110 211 lo wc B [] none X (.slice ao 0 cap) [] (.int .i64 (c + 1 : Nat)) (.bool (none : Option Tr).isSome) (.bool tx) := by rw [hwc]; exact h5.below ((Below.refl _ _).alloc (Nat.le_refl _) _)
 have htp : TreeOf 110 B X wc [⟨t.name, t.attrs, []⟩] none ([] ++ [(B, 0)]) := by rw [hwc]; exact h6.below ((Below.refl _ _).alloc (Nat.le_refl _) _) h5.lt
 have hB9 : Below B w wc := by rw [hwc]; exact (below_set (below_set (below_set (below_set HB1.out B 0 _ (Nat.le_refl _)) B 1 _ (Nat.le_refl _)) B 2 _ (Nat.le_refl _)) B 3 _ (Nat.le_refl _)).alloc (by simp; omega) _
 have HV9 : Hid (KeptX X w wc) := by show KeptX X w wc; rw [hwc]; exact HV1.out.trans (((((keptX_set _ B 0 _ HXB.out).trans (keptX_set _ B 1 _ HXB.out)).trans (keptX_set _ B 2 _ HXB.out)).trans (keptX_set _ B 3 _ HXB.out)).trans (KeptX.below ((Below.refl _ _).alloc (Nat.le_refl _) _)))
 clear hwc HV1 h5 h6 hyX b0 b1 b2 b3 bf0 bf1 bf2 bf3 a0 a1 a2 e4 el al hs1
 have c4 := hcr.c4
 have hlt9 := hcr.lt
 have HTP := Lib.hid htp
 have HB9 := Lib.hid hB9
 have hwB : Below wc.heap.size wc ((wc.alloc (.cells #[.pointer (some ⟨B, 0, none⟩)] 211)).drew) := belowN ((Below.refl _ wc).alloc (Nat.le_refl _) _) 1
 have HC4 := Lib.hid (hcr.below hwB)
 have HT4 := Lib.hid (HTP.out.below hwB hcr.lt)
 have HWB := Lib.hid hwB
 have HNP : Hid (((wc.alloc (.cells #[.pointer (some ⟨B, 0, none⟩)] 211)).drew).cell? ⟨wc.heap.size, 0, none⟩ = some (.pointer (some ⟨B, 0, none⟩))) := (Box.new wc [.pointer (some ⟨B, 0, none⟩)] 211 _ rfl).cell 0 _ rfl
 have HPL : Hid (([] : List (Nat × Nat)).length ≤ 1000000) := by show _ ≤ _; simp
 have HPQ : Hid (([] : List (Nat × Nat)).length = 0) := by show _ = _; simp
 have HBS : Hid (B + 1 ≤ ((wc.alloc (.cells #[.pointer (some ⟨B, 0, none⟩)] 211)).drew).heap.size) := by show _ ≤ _; simp; omega
 have HSZ : Hid (((wc.alloc (.cells #[.pointer (some ⟨B, 0, none⟩)] 211)).drew).heap.size = wc.heap.size + 1) := by show _ = _; simp
 have HB4 : Hid (∀ w9 : World, ((wc.alloc (.cells #[.pointer (some ⟨B, 0, none⟩)] 211)).drew).grownBy w9 (Value.slice ao 0 cap).ownBlock → w9.cell? ⟨B, 4, none⟩ = some (.slice ao 0 cap) ∧ w9.frozen? ⟨B, 4, none⟩ = false ∧ B < w9.heap.size) := by
  intro w9 hg
  have hbk : w9.heap[B]? = ((wc.alloc (.cells #[.pointer (some ⟨B, 0, none⟩)] 211)).drew).heap[B]? := hg.block B HC4.out.lt (fun e => by have := (HC4.out.opn.rowOf e.symm).1; omega)
  exact ⟨(World.cell?_of_block (by exact hbk)).trans HC4.out.c4, (World.frozen?_of_block (by exact hbk)).trans (HC4.out.f 4), Nat.lt_of_lt_of_le HC4.out.lt hg.size⟩
 have HBG : Hid (∀ w9 : World, ((wc.alloc (.cells #[.pointer (some ⟨B, 0, none⟩)] 211)).drew).grownBy w9 (Value.slice ao 0 cap).ownBlock → Below B w w9) := by
  intro w9 hg
  have h1 : Below B w ((wc.alloc (.cells #[.pointer (some ⟨B, 0, none⟩)] 211)).drew) := HB9.out.trans (HWB.out.mono (Nat.le_of_lt hlt9))
  exact ⟨hg.os.trans h1.os, hg.tape.trans h1.tape, hg.output.trans h1.output, Nat.le_trans h1.size hg.size, fun k hk => (hg.block k (Nat.lt_trans hk HC4.out.lt) (fun e => by have := (HC4.out.opn.rowOf e.symm).1; omega)).trans (h1.block k hk)⟩
 have HVG : Hid (∀ w9 : World, ((wc.alloc (.cells #[.pointer (some ⟨B, 0, none⟩)] 211)).drew).grownBy w9 (Value.slice ao 0 cap).ownBlock → KeptX X w w9) := fun w9 hg => HV9.out.trans ((KeptX.below HWB.out).trans (KeptX.grown hg HXO.out))
 clear hcr htp hB9 hwB HC1 HB1
 go_wp2
 go_region_law (first | (refine step_append_open rfl (.tmp 43) (.tmp 47) rfl (.slice ao 0 cap) ([] : List (Nat × Nat)) (by simp [Act.eval]) HC4.out.opn wc.heap.size (B, 0) (by simp [Act.eval]) HNP.out HPL.out HBS.out (wc.heap.size + 1) HSZ.out ?_; intro g9 cap9 w9 hown9 hgrow9 hat9; obtain ⟨z1, z2, z3⟩ := HB4.out w9 hgrow9; rw [HPQ.out] at hown9; have ho9 := Lib.hid hown9; have hg9 := Lib.hid hgrow9; have ha9 := Lib.hid hat9; rw [HPQ.out]; clear hown9 hgrow9 hat9))
 all_goals
  have hp := Core.point node_ptr HC4.out HT4.out ho9.out hg9.out (ha9.out.imp (fun e => e.symm) (fun e k hk => by cases hk; rw [HSZ.out]; exact e))
  have hbw := HBG.out w9 hg9.out
  have hvw := HVG.out w9 hg9.out
  have hvw2 := hvw.trans (keptX_set w9 B 4 (.slice (some ⟨g9, 0, none⟩) (0 + 1) cap9) HXB.out)
  have hbw2 := below_set hbw B 4 (.slice (some ⟨g9, 0, none⟩) (0 + 1) cap9) (Nat.le_refl _)
  clear z1 z2 z3 ho9 hg9 ha9 hbw hvw
  generalize w9.setCell ⟨B, 4, none⟩ (.slice (some ⟨g9, 0, none⟩) (0 + 1) cap9) = W10 at *
  have c7 := hp.c7
  have f7 := hp.f 7
  have lt10 := hp.lt
  have HP10 := Lib.hid hp
  have HBW := Lib.hid hbw2
  have HVW := Lib.hid hvw2
  clear hp hbw2 hvw2
  go_wp2
  go_ret
  refine ⟨⟨rfl, ⟨_, _, _, HP10.out.set7 (.bool false), by simp, fun f' hf' => ?_, ?_, ?_⟩, below_set HBW.out B 7 _ (Nat.le_refl _)⟩, HVW.out.trans (keptX_set _ B 7 _ HXB.out)⟩
  · rcases List.mem_cons.1 hf' with rfl | hf'
    · simp
    · have := H.out.kd f' hf'; omega
  · show c + 1 ≤ n + 1
    omega
  · simp

end Go.Proofs.YtphaeegbmfpcgaaGreatDoor
