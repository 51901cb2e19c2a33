/- The walks of beside and within; the conditions stand in the theorems. -/
import Derived.Test.YtbbbfjcikhpmbaaGreatJH23

namespace Go.Proofs.YtbbbfjcikhpmbaaGreat
open Go Go.RowKit

/-- A row of trees: the row is the call's own, the trees lie outside of X and of the row. -/
structure Mix (X : Nat → Prop) (b : Nat) (w : World) (v : Value) (ts : List Tr) (L : List TrV) : Prop where
 are : L.map (·.1) = ts
 own : Owns b 25 4 trC w v L
 nodes : ∀ y ∈ L, NodeX (fun j => X j ∨ some j = v.ownBlock) w y.1 y.2.1 y.2.2
theorem Mix.len {X : Nat → Prop} {b : Nat} {w : World} {v : Value} {ts : List Tr} {L : List TrV} (h : Mix X b w v ts L) : L.length = ts.length := by rw [← h.are, List.length_map]
theorem Mix.nil (X : Nat → Prop) (b : Nat) (w : World) : Mix X b w (.slice none 0 0) [] [] := ⟨rfl, Owns.nil, by simp⟩
theorem Mix.below {X : Nat → Prop} {b : Nat} {w w' : World} {v : Value} {ts : List Tr} {L : List TrV} (h : Mix X b w v ts L) (hb : Below w.heap.size w w') : Mix X b w' v ts L :=
 ⟨h.are, h.own.below hb, fun y hy => (h.nodes y hy).later hb⟩
theorem Mix.keptR {X : Nat → Prop} {b r : Nat} {w w' : World} {v : Value} {ts : List Tr} {L : List TrV} (h : Mix X b w v ts L) (hg : w.grownBy w' (some r)) (hr : r < b) (hX : X r) : Mix X b w' v ts L :=
 ⟨h.are, h.own.keptR hg hr, fun y hy => (h.nodes y hy).keep (KeptX.grown hg (fun g e => by cases e; exact .inl hX)) (fun _ _ h => h)⟩
theorem Mix.lt {X : Nat → Prop} {b : Nat} {w : World} {v : Value} {ts : List Tr} {L : List TrV} (h : Mix X b w v ts L) : ∀ g, v.ownBlock = some g → b ≤ g ∧ g < w.heap.size := h.own.lt
theorem Mix.push {X : Nat → Prop} {b : Nat} {w w' : World} {v v' : Value} {ts us : List Tr} {L M : List TrV} (h : Mix X b w v ts L) (hown : Owns b 25 4 trC w' v' (L ++ M)) (hg : w.grownBy w' v.ownBlock) (hl : v'.ownBlock = v.ownBlock ∨ v'.ownBlock = some w.heap.size)
    (hM : M.map (·.1) = us) (hn : ∀ y ∈ M, NodeX (fun j => X j ∨ some j = v.ownBlock) w y.1 y.2.1 y.2.2) : Mix X b w' v' (ts ++ us) (L ++ M) := by
 have hY : ∀ k, k < w.heap.size → (X k ∨ some k = v'.ownBlock) → (X k ∨ some k = v.ownBlock) := fun k hk h => h.elim .inl (fun h => by
  rcases hl with e | e
  · exact .inr (by rw [h, e])
  · rw [e] at h; cases h; omega)
 have hk1 : KeptX (fun j => X j ∨ some j = v.ownBlock) w w' := KeptX.grown hg (fun g e => .inr e.symm)
 refine ⟨by rw [List.map_append, h.are, hM], hown, fun y hy => ?_⟩
 rcases List.mem_append.1 hy with hy | hy
 · exact (h.nodes y hy).keep hk1 hY
 · exact (hn y hy).keep hk1 hY
/-- A node like that, its own blocks new or of old ones outside of Z. -/
def BesG (Z : Nat → Prop) (w : World) (t : Tr) (e : Ending) (w' : World) : Prop := ∃ av kv, e = .returned (nodeV t av kv) ∧ NodeX (fun j => Z j ∧ j < w.heap.size) w' t av kv ∧ Below w.heap.size w w'
/-- This function makes of these two that one. -/
def Turns (F : FuncId) (k x u : Tr) : Prop := ∀ (Z : Nat → Prop) (w : World) (av kv xv yv : Value), NodeX Z w k av kv → NodeX Z w x xv yv → Calls Tryz.prog F #[nodeV k av kv, nodeV x xv yv] w (BesG Z w u)
/-- The two functions' frame: own boxes, what is laid so far in a row, all else as it was. -/
structure BsI (Z : Nat → Prop) (w : World) (b ob : Nat) (NC XC ZC : List Value) (nm : Value) (av : Value) (at_ : List At2) (ts : List Tr) (L : List TrV) (v : Value) (wx : World) : Prop where
 n : Box wx w.heap.size NC
 m : Box wx (w.heap.size + 1) XC
 z : Box wx (w.heap.size + 2) ZC
 o : Box wx ob [nm, av, v, .string ⟨#[]⟩]
 g : Below w.heap.size w wx
 mix : Mix (fun j => (Z j ∧ j < w.heap.size) ∨ (w.heap.size ≤ j ∧ j < b)) b wx v ts L
 att : SliceX 2 atC (fun j => j < w.heap.size + 3 ∨ ob ≤ j) wx av at_
 hb : b ≤ wx.heap.size
 ho : w.heap.size + 3 ≤ ob ∧ ob < b
theorem BsI.below {Z : Nat → Prop} {w wx wy : World} {b ob : Nat} {NC XC ZC : List Value} {nm av v : Value} {at_ : List At2} {ts : List Tr} {L : List TrV} (h : BsI Z w b ob NC XC ZC nm av at_ ts L v wx) (hb : Below wx.heap.size wx wy) : BsI Z w b ob NC XC ZC nm av at_ ts L v wy :=
 ⟨h.n.below hb h.n.lt, h.m.below hb h.m.lt, h.z.below hb h.z.lt, h.o.below hb h.o.lt, h.g.trans (hb.mono h.g.size), h.mix.below hb, h.att.below hb, Nat.le_trans h.hb hb.size, h.ho⟩
theorem BsI.step {Z : Nat → Prop} {w wx wy : World} {b ob : Nat} {NC XC ZC : List Value} {nm av v v' : Value} {at_ : List At2} {ts us : List Tr} {L M : List TrV} (h : BsI Z w b ob NC XC ZC nm av at_ ts L v wx) (hown : Owns b 25 4 trC wy v' (L ++ M)) (hg : wx.grownBy wy v.ownBlock) (hl : v'.ownBlock = v.ownBlock ∨ v'.ownBlock = some wx.heap.size)
    (hM : M.map (·.1) = us) (hn : ∀ y ∈ M, NodeX (fun j => ((Z j ∧ j < w.heap.size) ∨ (w.heap.size ≤ j ∧ j < b)) ∨ some j = v.ownBlock) wx y.1 y.2.1 y.2.2) : BsI Z w b ob NC XC ZC nm av at_ (ts ++ us) (L ++ M) v' (wy.setCell ⟨ob, 2, none⟩ v') := by
 have h2 := setCell_grown wy ob 2 v'
 have hne : ∀ k, k < b → some k ≠ v.ownBlock := fun k hk e => by have := (h.mix.lt k e.symm).1; omega
 have ho := h.ho
 have hm := (h.mix.push hown hg hl hM hn).keptR h2 ho.2 (.inr ⟨by omega, ho.2⟩)
 have hw : Below w.heap.size w wy := h.g.trans ⟨hg.os, hg.tape, hg.output, hg.size, fun k hk => hg.block k (Nat.lt_of_lt_of_le hk h.g.size) (hne k (by omega))⟩
 refine ⟨(h.n.grown hg (hne _ (by omega))).gr h2 (by omega), (h.m.grown hg (hne _ (by omega))).gr h2 (by omega), (h.z.grown hg (hne _ (by omega))).gr h2 (by omega), (h.o.grown hg (hne _ (by omega))).set 2 _, hw.trans ⟨h2.os, h2.tape, h2.output, h2.size, fun k hk => h2.block k (Nat.lt_of_lt_of_le hk hw.size) (fun e => by cases e; omega)⟩, hm, ?_, Nat.le_trans h.hb (Nat.le_trans hg.size h2.size), ho⟩
 refine (h.att.keep (KeptX.grown hg fun g e => .inr ?_) (fun _ _ h => h)).keep (KeptX.grown h2 fun g e => by cases e; exact .inr (Nat.le_refl _)) (fun _ _ h => h)
 have := (h.mix.lt g e).1
 omega
/-- The node that is laid. -/
theorem BsI.node {Z : Nat → Prop} {w wx : World} {b ob : Nat} {NC XC ZC : List Value} {nm av v : Value} {at_ : List At2} {ts : List Tr} {L : List TrV} (h : BsI Z w b ob NC XC ZC nm av at_ ts L v wx) (n : Bs) : NodeX (fun j => (Z j ∧ j < w.heap.size) ∨ j = w.heap.size + 2) wx (.mk n at_ ts []) av v :=
 .mk L (h.att.keep (KeptX.refl _ _) (fun _ _ h => .inl (by omega))) h.mix.are (h.mix.own.toX trC_len (fun g hg hx => by have := (h.mix.lt g hg).1; have := h.ho; omega)) (fun y hy => (h.mix.nodes y hy).keep (KeptX.refl _ _) (fun k _ hk => .inl (hk.imp id (fun e => by have := h.ho; omega))))
theorem blank_node (X : Nat → Prop) (w : World) (x : Bs) : NodeX X w (blankT x) (.slice none 0 0) (.slice none 0 0) := .mk [] SliceX.nil rfl SliceX.nil (by simp)
theorem att_lit (X : Nat → Prop) (a : At2) (w : World) (T : TypeId) (H : Nat) (hH : w.heap.size = H) (hX : ¬ X H) : SliceX 2 atC X (w.alloc (.cells (atC a).toArray T)) (.slice (some ⟨H, 0, none⟩) 1 1) [a] := by
 have hl := sliceLit (n := 2) (C := atC) (fun _ => rfl) w [a] T H 1 hH rfl (by unfold maxLen; simp)
 simp only [List.flatMap_cons, List.flatMap_nil, List.append_nil] at hl
 obtain ⟨ao, cap, e, h1, h2, h3, h4⟩ := hl
 simp only [Value.slice.injEq] at e
 obtain ⟨rfl, -, rfl⟩ := e
 refine ⟨_, _, rfl, h1, h2, h3, fun i y hy => ?_⟩
 obtain ⟨g, o, e1, e2, e3⟩ := h4 i y hy
 cases e1
 exact ⟨_, _, rfl, e2, hX, e3⟩
theorem tr_one2 {X Y : Nat → Prop} {w : World} {y z : TrV} (h : NodeX X w y.1 y.2.1 y.2.2) (h2 : NodeX Y w z.1 z.2.1 z.2.2) : ∀ u ∈ [y, z], ∀ c ∈ trC u, c.oneCell' = true := by
 intro u hu
 simp only [List.mem_cons, List.not_mem_nil, or_false] at hu
 rcases hu with rfl | rfl
 · exact tr_one' h
 · exact tr_one' h2
set_option maxRecDepth 100000 in
set_option maxHeartbeats 16000000 in
theorem beside_any (G : Tr → Tr) (x t : Tr) (hk : t.kids.length ≤ 40000) (hG : ∀ k ∈ t.kids, ((k.name = bDependencies ∨ k.name = bManagement) → Turns 64 k x (G k)) ∧ (¬ (k.name = bDependencies ∨ k.name = bManagement) → G k = k)) :
    Turns 21 t x (besideT G x t) := by
 intro Z w av kv xv yv ht hx
 obtain ⟨ao, ac, ko, kc, rfl, rfl, hal, -⟩ := ht.shape
 obtain ⟨xo, xc, yo, yc, rfl, rfl, -, -⟩ := hx.shape
 have HT := Lib.hid ht.freshX
 have HX := Lib.hid hx.freshX
 have HG := Lib.hid hG
 have HKL : Hid (t.kids.length ≤ 40000) := hk
 unfold nodeV
 clear ht hx hG hk
 go_enter Tryz.func21, Tryz.ntmps21
 go_upto_region 2 with fail
 refine wp_world ?_
 intro W hW
 have hI : BsI Z w (w.heap.size + 5) (w.heap.size + 1 + 1 + 1 + 1) [.string (bs t.name), .slice ao t.attrs.length ac, .slice ko t.kids.length kc, .string (bs t.text)] [.string (bs x.name), .slice xo x.attrs.length xc, .slice yo x.kids.length yc, .string (bs x.text)] [.string ⟨#[]⟩, .slice none 0 0, .slice none 0 0, .string ⟨#[]⟩] (.string (bs t.name)) (.slice (some ⟨w.heap.size + 1 + 1 + 1, 0, none⟩) 1 1) [([120], [121])] [] [] (.slice none 0 0) W := by
  rw [hW]
  refine ⟨((((Box.new w [.string (bs t.name), .slice ao t.attrs.length ac, .slice ko t.kids.length kc, .string (bs t.text)] _ _ rfl).alloc _).alloc _).alloc _).alloc _, (((Box.new _ [.string (bs x.name), .slice xo x.attrs.length xc, .slice yo x.kids.length yc, .string (bs x.text)] _ _ (by simp)).alloc _).alloc _).alloc _, ((Box.new _ [.string ⟨#[]⟩, .slice none 0 0, .slice none 0 0, .string ⟨#[]⟩] _ _ (by simp)).alloc _).alloc _, Box.new _ [.string (bs t.name), (.slice (some ⟨w.heap.size + 1 + 1 + 1, 0, none⟩) 1 1), .slice none 0 0, .string ⟨#[]⟩] _ _ (by simp), ?_, Mix.nil _ _ _, ?_, by simp, by omega⟩
  · exact (((((Below.refl _ w).alloc (Nat.le_refl _) _).alloc (by simp) _).alloc (by simp; omega) _).alloc (by simp; omega) _).alloc (by simp; omega) _
  · exact (att_lit _ ([120], [121]) _ _ (w.heap.size + 3) (by simp) (by omega)).below ((Below.refl _ _).alloc (Nat.le_refl _) _)
 clear hW
 have HI := Lib.hid hI
 clear hI
 have hkl : t.kids.length ≤ 40000 := HKL.out
 obtain ⟨a0, a1, a2, a3⟩ := bxc4 HI.out.n
 have al := HI.out.n.lt
 go_wp2
 clear a0 a1 a2 a3 al
 go_loopw [6] (fun i wr => ∃ (j : Nat) (z : Int) (L : List TrV) (oa : Option Addr) (oc : Nat), j ≤ t.kids.length ∧ z = (j : Int) - 1 ∧ i = .int .i64 z ∧ Hid (BsI Z w (w.heap.size + 5) (w.heap.size + 1 + 1 + 1 + 1) [.string (bs t.name), .slice ao t.attrs.length ac, .slice ko t.kids.length kc, .string (bs t.text)] [.string (bs x.name), .slice xo x.attrs.length xc, .slice yo x.kids.length yc, .string (bs x.text)] [.string ⟨#[]⟩, .slice none 0 0, .slice none 0 0, .string ⟨#[]⟩] (.string (bs t.name)) (.slice (some ⟨w.heap.size + 1 + 1 + 1, 0, none⟩) 1 1) [([120], [121])] (((t.kids.drop j).reverse).flatMap (fun k => [blankT [32, 10], G k])) L (.slice oa L.length oc) wr)) (fun i _ => (intOf i + 1).toNat)
 case atStart => exact ⟨t.kids.length, _, [], none, 0, Nat.le_refl _, rfl, rfl, by have h1 := HI.out; rw [List.drop_length]; exact h1⟩
 case round =>
  obtain ⟨j, z, L, oa, oc, hj, hz, rfl, HR⟩ := hrel
  cases j with
  | zero =>
   obtain rfl : z = -1 := by simpa using hz
   clear hz
   have HLL : Hid (L.length ≤ 90000) := by
    have h1 := HR.out.mix.len
    rw [List.length_flatMap] at h1
    simp only [List.length_cons, List.length_nil, List.map_const', List.sum_replicate_nat, List.length_reverse, List.length_drop] at h1
    show _ ≤ _
    omega
   have HXR := Lib.hid (HX.out.later HR.out.g)
   have o2 := HR.out.o.cell 2 _ rfl
   have ol := HR.out.o.lt
   obtain ⟨m0, m1, m2, m3⟩ := bxc4 HR.out.m
   have ml := HR.out.m.lt
   have HLT : Hid (SliceOf 4 trC (wr.alloc (.cells #[.string ⟨#[]⟩, .slice none 0 0, .slice none 0 0, .string ⟨#[9]⟩, .string (bs x.name), .slice xo x.attrs.length xc, .slice yo x.kids.length yc, .string (bs x.text)] 25)) (.slice (some ⟨wr.heap.size, 0, none⟩) 2 2) ([(blankT [9], .slice none 0 0, .slice none 0 0), (x, .slice xo x.attrs.length xc, .slice yo x.kids.length yc)] : List TrV)) := sliceLit trC_len wr ([(blankT [9], .slice none 0 0, .slice none 0 0), (x, .slice xo x.attrs.length xc, .slice yo x.kids.length yc)] : List TrV) 25 wr.heap.size 2 rfl rfl (by unfold maxLen; simp)
   have HOA : Hid (Owns (w.heap.size + 5) 25 4 trC (wr.alloc (.cells #[.string ⟨#[]⟩, .slice none 0 0, .slice none 0 0, .string ⟨#[9]⟩, .string (bs x.name), .slice xo x.attrs.length xc, .slice yo x.kids.length yc, .string (bs x.text)] 25)) (.slice oa L.length oc) L) := HR.out.mix.own.alloc _
   have HOO : Hid (∀ w8 : World, (wr.alloc (.cells #[.string ⟨#[]⟩, .slice none 0 0, .slice none 0 0, .string ⟨#[9]⟩, .string (bs x.name), .slice xo x.attrs.length xc, .slice yo x.kids.length yc, .string (bs x.text)] 25)).grownBy w8 (Value.slice oa L.length oc).ownBlock → Box w8 (w.heap.size + 1 + 1 + 1 + 1) [.string (bs t.name), (.slice (some ⟨w.heap.size + 1 + 1 + 1, 0, none⟩) 1 1), .slice oa L.length oc, .string ⟨#[]⟩]) := fun w8 h => (HR.out.o.alloc _).grown h (fun e => by have := (HR.out.mix.lt _ e.symm).1; omega)
   have HBZ : Hid (w.heap.size + 5 ≤ (wr.alloc (.cells #[.string ⟨#[]⟩, .slice none 0 0, .slice none 0 0, .string ⟨#[9]⟩, .string (bs x.name), .slice xo x.attrs.length xc, .slice yo x.kids.length yc, .string (bs x.text)] 25)).heap.size) := by have := HR.out.hb; show _ ≤ (wr.heap.push _).size; rw [Array.size_push]; omega
   have HNM : Hid (∀ y ∈ ([(blankT [9], .slice none 0 0, .slice none 0 0), (x, .slice xo x.attrs.length xc, .slice yo x.kids.length yc)] : List TrV), NodeX (fun j => ((Z j ∧ j < w.heap.size) ∨ (w.heap.size ≤ j ∧ j < w.heap.size + 5)) ∨ some j = (Value.slice oa L.length oc).ownBlock) wr y.1 y.2.1 y.2.2) := by
    intro y hy
    simp only [List.mem_cons, List.not_mem_nil, or_false] at hy
    rcases hy with rfl | rfl
    · exact blank_node _ _ _
    · exact HXR.out.keep (KeptX.refl _ _) (fun j _ h => by
       rcases h with (h | h) | h
       · exact .inl h.1
       · exact .inr h.1
       · have := (HR.out.mix.lt j h.symm).1; exact .inr (by omega))
   go_upto_region 10 with (at_builtin; go_loud (refine wpList_append_slice _ rfl _ _ 23 rfl (w.heap.size + 5) 25 Tryz.underlying23 info_node rfl (by decide) trC_len (.slice oa L.length oc) L rfl HOA.out _ ([(blankT [9], .slice none 0 0, .slice none 0 0), (x, .slice xo x.attrs.length xc, .slice yo x.kids.length yc)] : List TrV) rfl HLT.out (fun y hy => tr_one' (HNM.out y hy)) (by have h1 := HLL.out; simp only [List.length_cons, List.length_nil]; omega) (by decide) HBZ.out ?_; intro v8 w8 hown8 hgrow8 hloc8; obtain ⟨a8, c8, hv8⟩ := hown8.shape; rw [show (L ++ ([(blankT [9], .slice none 0 0, .slice none 0 0), (x, .slice xo x.attrs.length xc, .slice yo x.kids.length yc)] : List TrV)).length = L.length + 2 from by simp] at hv8; subst hv8; have hz8 := HOO.out w8 hgrow8; have z2 := hz8.cell 2 _ rfl; have zf2 := hz8.free 2; have zl := hz8.lt; have HO8 := Lib.hid hown8; have HG8 := Lib.hid hgrow8; have HL8 := Lib.hid hloc8; clear hown8 hgrow8 hloc8 hz8))
   refine wp_world ?_
   intro W8 hW8
   have HI8 := Lib.hid ((HR.out.below ((Below.refl _ _).alloc (Nat.le_refl _) (.cells #[.string ⟨#[]⟩, .slice none 0 0, .slice none 0 0, .string ⟨#[9]⟩, .string (bs x.name), .slice xo x.attrs.length xc, .slice yo x.kids.length yc, .string (bs x.text)] 25))).step HO8.out HG8.out HL8.out rfl (fun y hy => (HNM.out y hy).later ((Below.refl _ _).alloc (Nat.le_refl _) _)))
   rw [← hW8] at HI8
   clear hW8 z2 zf2 zl HLT HOA HOO HBZ HNM HO8 HG8 HL8 HR
   clear o2 ol m0 m1 m2 m3 ml HXR
   obtain ⟨b0, b1, b2, b3⟩ := bxc4 HI8.out.o
   have bl := HI8.out.o.lt
   have hz8 : Box W8 (w.heap.size + 1 + 1) [.string ⟨#[]⟩, .slice none 0 0, .slice none 0 0, .string ⟨#[]⟩] := HI8.out.z
   obtain ⟨r0, r1, r2, r3⟩ := bxc4 hz8
   have rl := hz8.lt
   have rf0 := hz8.free 0
   have rf1 := hz8.free 1
   have rf2 := hz8.free 2
   have rf3 := hz8.free 3
   clear hz8
   go_wp2
   refine bodyPost_ret (v := .agg #[.string (bs t.name), (.slice (some ⟨w.heap.size + 1 + 1 + 1, 0, none⟩) 1 1), .slice a8 (L.length + 2) c8, .string ⟨#[]⟩]) (by simp [results, Tryz.results21, go_sem, r0, r1, r2, r3]) rfl ?_
   have h1 : W8.grownBy ((((W8.setCell ⟨w.heap.size + 1 + 1, 0, none⟩ (.string (bs t.name))).setCell ⟨w.heap.size + 1 + 1, 1, none⟩ (.slice (some ⟨w.heap.size + 1 + 1 + 1, 0, none⟩) 1 1)).setCell ⟨w.heap.size + 1 + 1, 2, none⟩ (.slice a8 (L.length + 2) c8)).setCell ⟨w.heap.size + 1 + 1, 3, none⟩ (.string ⟨#[]⟩)) (some (w.heap.size + 1 + 1)) := (((setCell_grown W8 _ 0 _).trans (setCell_grown _ _ 1 _)).trans (setCell_grown _ _ 2 _)).trans (setCell_grown _ _ 3 _)
   refine ⟨_, _, rfl, ?_, HI8.out.g.trans (gr_below h1 (by omega) HI8.out.g.size)⟩
   have h2 := HI8.out.node t.name
   rw [List.drop_zero] at h2
   exact h2.keep (KeptX.grown h1 (fun g e => by cases e; exact .inr rfl)) (fun _ _ h => .inl h)
  | succ m =>
   obtain rfl : z = (m : Int) := by omega
   clear hz
   have hlt : m < t.kids.length := hj
   have hmI : (m : Int) < (t.kids.length : Int) := by omega
   have hm0 : (0 : Int) ≤ (m : Int) := by omega
   have HTD : Hid ((((t.kids.drop m).reverse).flatMap (fun k => [blankT [32, 10], G k])) = ((t.kids.drop (m + 1)).reverse).flatMap (fun k => [blankT [32, 10], G k]) ++ [blankT [32, 10], G t.kids[m]]) := by
    show _ = _
    rw [List.drop_eq_getElem_cons hlt, List.reverse_cons, List.flatMap_append]
    simp
   obtain ⟨g, o, a1, a2, a3, a4, rfl, hg, -, c0, c1, c2, c3, hn1⟩ := (HT.out.later HR.out.g).at m hlt
   have HN1 := Lib.hid hn1
   have HGK := Lib.hid (HG.out t.kids[m] (List.getElem_mem hlt))
   have HLL : Hid (L.length ≤ 90000) := by
    have h1 := HR.out.mix.len
    rw [List.length_flatMap] at h1
    simp only [List.length_cons, List.length_nil, List.map_const', List.sum_replicate_nat, List.length_reverse, List.length_drop] at h1
    show _ ≤ _
    omega
   clear hn1
   have hks := HR.out.n.cell 2 _ rfl
   have hkl2 := HR.out.n.lt
   generalize t.kids[m] = k at *
   obtain ⟨kn, ka, kk, kx⟩ := k
   simp only [Tr.name, Tr.attrs, Tr.kids, Tr.text] at c0 c1 c2 c3 HN1
   go_upto_region 6 with fail
   refine wp_world ?_
   intro W5 hW5
   have x5 : Box W5 wr.heap.size [.string (bs kn), .slice a1 ka.length a2, .slice a3 kk.length a4, .string (bs kx)] := by rw [hW5]; exact Box.new wr [.string (bs kn), .slice a1 ka.length a2, .slice a3 kk.length a4, .string (bs kx)] _ _ rfl
   have hb5 : Below wr.heap.size wr W5 := by rw [hW5]; exact (Below.refl _ _).alloc (Nat.le_refl _) _
   clear hW5 c0 c1 c2 c3 hks hkl2 hg
   have HK5 := Lib.hid x5
   have HB5 := Lib.hid hb5
   have HN5 := Lib.hid (HN1.out.later hb5)
   have HX5 := Lib.hid (HX.out.later (HR.out.g.trans (hb5.mono HR.out.g.size)))
   have HM5 := Lib.hid (HR.out.m.below hb5 HR.out.m.lt)
   have HS5 : Hid (w.heap.size + 5 ≤ wr.heap.size) := HR.out.hb
   have HRO : Hid (∀ j, some j = (Value.slice oa L.length oc).ownBlock → w.heap.size + 5 ≤ j ∧ j < wr.heap.size) := fun j e => HR.out.mix.lt j e.symm
   clear x5 hb5 HN1
   obtain ⟨u, hu⟩ : ∃ u, u = G (.mk kn ka kk kx) := ⟨_, rfl⟩
   rw [← hu] at HTD HGK
   clear hu
   obtain ⟨q, hq⟩ : ∃ q, q = (decide (kn = bDependencies) || decide (kn = bManagement)) := ⟨_, rfl⟩
   have HQT : Hid (q = true → Turns 64 (.mk kn ka kk kx) x u) := fun h => HGK.out.1 (by show kn = _ ∨ kn = _; rw [hq] at h; simpa using h)
   have HQF : Hid (q = false → u = .mk kn ka kk kx) := fun h => HGK.out.2 (by show ¬ (kn = _ ∨ kn = _); rw [hq] at h; simpa using h)
   have k0 := HK5.out.cell 0 _ rfl
   have kl := HK5.out.lt
   go_cut [33] from 26 to 33 (fun bv wx => bv = .bool q ∧ wx = W5)
   case first =>
    have h1 := bs_beq2 kn bDependencies
    have h2 := bs_beq2 kn bManagement
    rw [show ((bs bDependencies : S)).toList = [100, 101, 112, 101, 110, 100, 101, 110, 99, 105, 101, 115] from by decide +kernel] at h1
    rw [show ((bs bManagement : S)).toList = [100, 101, 112, 101, 110, 100, 101, 110, 99, 121, 77, 97, 110, 97, 103, 101, 109, 101, 110, 116] from by decide +kernel] at h2
    have HQ := Lib.hid hq
    clear hq
    generalize decide (kn = bDependencies) = q1 at *
    generalize decide (kn = bManagement) = q2 at *
    cases q1
    · cases q2
      all_goals
       go_wp2
       go_meet
       case rel => exact ⟨by rw [HQ.out]; rfl, rfl⟩
    · go_wp2
      go_meet
      case rel => exact ⟨by rw [HQ.out]; rfl, rfl⟩
   case rest =>
    obtain ⟨rfl, hwx⟩ := hcut
    subst hwx
    clear hq HGK k0 kl
    go_upto_if 33 with fail
    go_cut [] from 26 to 36 (fun wx => ∃ d1 e1 d2 d3 e3 d4, Hid (Box wx wr.heap.size [.string (bs u.name), .slice d1 e1 d2, .slice d3 e3 d4, .string (bs u.text)] ∧ NodeX (fun j => ((Z j ∧ j < w.heap.size) ∨ (w.heap.size ≤ j ∧ j < w.heap.size + 5)) ∨ some j = (Value.slice oa L.length oc).ownBlock) wx u (.slice d1 e1 d2) (.slice d3 e3 d4) ∧ Below wr.heap.size wr wx))
    case first =>
     cases q with
     | true =>
      have HTU := Lib.hid (HQT.out rfl)
      clear HQT HQF
      obtain ⟨m0, m1, m2, m3⟩ := bxc4 HM5.out
      have ml := HM5.out.lt
      obtain ⟨k0, k1, k2, k3⟩ := bxc4 HK5.out
      have kl := HK5.out.lt
      have HCL := Lib.hid (HTU.out (fun j => Z j ∨ w.heap.size ≤ j) _ _ _ _ _ HN5.out HX5.out)
      unfold nodeV at HCL
      go_wp2_with fail
      refine HCL.out.mono ?_
      intro e w7 hO
      obtain ⟨dv, ev, rfl, hn7, hb7⟩ := hO
      obtain ⟨d1, d2, d3, d4, rfl, rfl, -, -⟩ := hn7.shape
      have HN7 := Lib.hid hn7
      have HK7 := Lib.hid (HK5.out.below hb7 HK5.out.lt)
      have HB7 := Lib.hid (HB5.out.trans (hb7.mono HB5.out.size))
      have HS7 : Hid (wr.heap.size < wc.heap.size) := HK5.out.lt
      clear hn7 hb7 HCL m0 m1 m2 m3 ml k0 k1 k2 k3 kl
      obtain ⟨k0, k1, k2, k3⟩ := bxc4 HK7.out
      have kf0 := HK7.out.free 0
      have kf1 := HK7.out.free 1
      have kf2 := HK7.out.free 2
      have kf3 := HK7.out.free 3
      have kl := HK7.out.lt
      unfold nodeV
      go_wp2
      go_meet
      case rel =>
       have h1 : w7.grownBy ((((w7.setCell ⟨wr.heap.size, 0, none⟩ (.string (bs u.name))).setCell ⟨wr.heap.size, 1, none⟩ (.slice d1 u.attrs.length d2)).setCell ⟨wr.heap.size, 2, none⟩ (.slice d3 u.kids.length d4)).setCell ⟨wr.heap.size, 3, none⟩ (.string (bs u.text))) (some wr.heap.size) := (((setCell_grown w7 _ 0 _).trans (setCell_grown _ _ 1 _)).trans (setCell_grown _ _ 2 _)).trans (setCell_grown _ _ 3 _)
       refine ⟨d1, _, d2, d3, _, d4, ((((HK7.out.set 0 _).set 1 _).set 2 _).set 3 _), ?_, HB7.out.trans (gr_below h1 (Nat.le_refl _) HB7.out.size)⟩
       exact HN7.out.keep (KeptX.grown h1 (fun g e => by cases e; exact ⟨.inr (by have := HS5.out; omega), HS7.out⟩)) (fun j _ h => by
        have h5 := HS5.out
        have h7 := HS7.out
        rcases h with (h | h) | h
        · exact ⟨.inl h.1, by omega⟩
        · exact ⟨.inr h.1, by omega⟩
        · have h8 := HRO.out j h; exact ⟨.inr (by omega), by omega⟩)
     | false =>
      have HUE := Lib.hid (HQF.out rfl)
      clear HQT HQF
      go_wp2
      go_meet
      case rel =>
       rw [HUE.out]
       exact ⟨a1, _, a2, a3, _, a4, HK5.out, HN5.out.keep (KeptX.refl _ _) (fun j _ h => by
        rcases h with (h | h) | h
        · exact .inl h.1
        · exact .inr h.1
        · have := (HRO.out j h).1; exact .inr (by omega)), HB5.out⟩
    case rest =>
     obtain ⟨d1, e1, d2, d3, e3, d4, hc⟩ := hcut
     have HK6 := Lib.hid hc.out.1
     have HN6 := Lib.hid hc.out.2.1
     have HI6 := Lib.hid (HR.out.below hc.out.2.2)
     have HB6 := Lib.hid hc.out.2.2
     clear hc HR HK5 HB5 HN5 HX5 HM5 HQT HQF
     obtain ⟨k0, k1, k2, k3⟩ := bxc4 HK6.out
     have kl := HK6.out.lt
     have o2 := HI6.out.o.cell 2 _ rfl
     have ol := HI6.out.o.lt
     have HLT : Hid (SliceOf 4 trC (wc.alloc (.cells #[.string ⟨#[]⟩, .slice none 0 0, .slice none 0 0, .string ⟨#[32, 10]⟩, .string (bs u.name), .slice d1 e1 d2, .slice d3 e3 d4, .string (bs u.text)] 25)) (.slice (some ⟨wc.heap.size, 0, none⟩) 2 2) ([(blankT [32, 10], .slice none 0 0, .slice none 0 0), (u, .slice d1 e1 d2, .slice d3 e3 d4)] : List TrV)) := sliceLit trC_len wc ([(blankT [32, 10], .slice none 0 0, .slice none 0 0), (u, .slice d1 e1 d2, .slice d3 e3 d4)] : List TrV) 25 wc.heap.size 2 rfl rfl (by unfold maxLen; simp)
     have HOA : Hid (Owns (w.heap.size + 5) 25 4 trC (wc.alloc (.cells #[.string ⟨#[]⟩, .slice none 0 0, .slice none 0 0, .string ⟨#[32, 10]⟩, .string (bs u.name), .slice d1 e1 d2, .slice d3 e3 d4, .string (bs u.text)] 25)) (.slice oa L.length oc) L) := HI6.out.mix.own.alloc _
     have HOO : Hid (∀ w8 : World, (wc.alloc (.cells #[.string ⟨#[]⟩, .slice none 0 0, .slice none 0 0, .string ⟨#[32, 10]⟩, .string (bs u.name), .slice d1 e1 d2, .slice d3 e3 d4, .string (bs u.text)] 25)).grownBy w8 (Value.slice oa L.length oc).ownBlock → Box w8 (w.heap.size + 1 + 1 + 1 + 1) [.string (bs t.name), (.slice (some ⟨w.heap.size + 1 + 1 + 1, 0, none⟩) 1 1), .slice oa L.length oc, .string ⟨#[]⟩]) := fun w8 h => (HI6.out.o.alloc _).grown h (fun e => by have := (HI6.out.mix.lt _ e.symm).1; omega)
     have HBZ : Hid (w.heap.size + 5 ≤ (wc.alloc (.cells #[.string ⟨#[]⟩, .slice none 0 0, .slice none 0 0, .string ⟨#[32, 10]⟩, .string (bs u.name), .slice d1 e1 d2, .slice d3 e3 d4, .string (bs u.text)] 25)).heap.size) := by have := HI6.out.hb; show _ ≤ (wc.heap.push _).size; rw [Array.size_push]; omega
     have HNM : Hid (∀ y ∈ ([(blankT [32, 10], .slice none 0 0, .slice none 0 0), (u, .slice d1 e1 d2, .slice d3 e3 d4)] : List TrV), NodeX (fun j => ((Z j ∧ j < w.heap.size) ∨ (w.heap.size ≤ j ∧ j < w.heap.size + 5)) ∨ some j = (Value.slice oa L.length oc).ownBlock) wc y.1 y.2.1 y.2.2) := by
      intro y hy
      simp only [List.mem_cons, List.not_mem_nil, or_false] at hy
      rcases hy with rfl | rfl
      · exact blank_node _ _ _
      · exact HN6.out
     go_upto_region 4 with (at_builtin; go_loud (refine wpList_append_slice _ rfl _ _ 23 rfl (w.heap.size + 5) 25 Tryz.underlying23 info_node rfl (by decide) trC_len (.slice oa L.length oc) L rfl HOA.out _ ([(blankT [32, 10], .slice none 0 0, .slice none 0 0), (u, .slice d1 e1 d2, .slice d3 e3 d4)] : List TrV) rfl HLT.out (fun y hy => tr_one' (HNM.out y hy)) (by have h1 := HLL.out; simp only [List.length_cons, List.length_nil]; omega) (by decide) HBZ.out ?_; intro v8 w8 hown8 hgrow8 hloc8; obtain ⟨a8, c8, hv8⟩ := hown8.shape; rw [show (L ++ ([(blankT [32, 10], .slice none 0 0, .slice none 0 0), (u, .slice d1 e1 d2, .slice d3 e3 d4)] : List TrV)).length = L.length + 2 from by simp] at hv8; subst hv8; have hz8 := HOO.out w8 hgrow8; have z2 := hz8.cell 2 _ rfl; have zf2 := hz8.free 2; have zl := hz8.lt; have HO8 := Lib.hid hown8; have HG8 := Lib.hid hgrow8; have HL8 := Lib.hid hloc8; clear hown8 hgrow8 hloc8 hz8))
     refine wp_world ?_
     intro W8 hW8
     have HI8 := Lib.hid ((HI6.out.below ((Below.refl _ _).alloc (Nat.le_refl _) (.cells #[.string ⟨#[]⟩, .slice none 0 0, .slice none 0 0, .string ⟨#[32, 10]⟩, .string (bs u.name), .slice d1 e1 d2, .slice d3 e3 d4, .string (bs u.text)] 25))).step HO8.out HG8.out HL8.out rfl (fun y hy => (HNM.out y hy).later ((Below.refl _ _).alloc (Nat.le_refl _) _)))
     rw [← hW8] at HI8
     clear hW8 z2 zf2 zl HLT HOA HOO HBZ HNM HO8 HG8 HL8 HI6
     clear k0 k1 k2 k3 kl o2 ol HK6 HN6 HB6
     go_wp2
     go_roundw
     case rel =>
      refine ⟨m, (m : Int) - 1, L ++ [(blankT [32, 10], .slice none 0 0, .slice none 0 0), (u, .slice d1 e1 d2, .slice d3 e3 d4)], a8, c8, by omega, rfl, by go_num, ?_⟩
      have h1 := HI8.out
      rw [HTD.out, show (L ++ ([(blankT [32, 10], .slice none 0 0, .slice none 0 0), (u, .slice d1 e1 d2, .slice d3 e3 d4)] : List TrV)).length = L.length + 2 from by simp]
      exact h1
     case measure => simp [intOf]
set_option maxRecDepth 100000 in
set_option maxHeartbeats 16000000 in
theorem within_any (G : Tr → Tr) (x t : Tr) (hk : t.kids.length ≤ 40000) (hG : ∀ k ∈ t.kids, (k.name = bDependency → Turns 21 k x (G k)) ∧ (k.name = bDependencies → Turns 64 k x (G k)) ∧ (k.name ≠ bDependency → k.name ≠ bDependencies → G k = k)) :
    Turns 64 t x (withinT G x t) := by
 intro Z w av kv xv yv ht hx
 obtain ⟨ao, ac, ko, kc, rfl, rfl, hal, -⟩ := ht.shape
 obtain ⟨xo, xc, yo, yc, rfl, rfl, -, -⟩ := hx.shape
 have HT := Lib.hid ht.freshX
 have HX := Lib.hid hx.freshX
 have HG := Lib.hid hG
 have HKL : Hid (t.kids.length ≤ 40000) := hk
 unfold nodeV
 clear ht hx hG hk
 go_enter Tryz.func64, Tryz.ntmps64
 go_upto_region 2 with fail
 refine wp_world ?_
 intro W hW
 have hI : BsI Z w (w.heap.size + 4) (w.heap.size + 1 + 1 + 1) [.string (bs t.name), .slice ao t.attrs.length ac, .slice ko t.kids.length kc, .string (bs t.text)] [.string (bs x.name), .slice xo x.attrs.length xc, .slice yo x.kids.length yc, .string (bs x.text)] [.string ⟨#[]⟩, .slice none 0 0, .slice none 0 0, .string ⟨#[]⟩] (.string (bs t.name)) (.slice none 0 0) [] [] [] (.slice none 0 0) W := by
  rw [hW]
  refine ⟨(((Box.new w [.string (bs t.name), .slice ao t.attrs.length ac, .slice ko t.kids.length kc, .string (bs t.text)] _ _ rfl).alloc _).alloc _).alloc _, ((Box.new _ [.string (bs x.name), .slice xo x.attrs.length xc, .slice yo x.kids.length yc, .string (bs x.text)] _ _ (by simp)).alloc _).alloc _, (Box.new _ [.string ⟨#[]⟩, .slice none 0 0, .slice none 0 0, .string ⟨#[]⟩] _ _ (by simp)).alloc _, Box.new _ [.string (bs t.name), .slice none 0 0, .slice none 0 0, .string ⟨#[]⟩] _ _ (by simp), ?_, Mix.nil _ _ _, SliceX.nil, by simp, by omega⟩
  exact ((((Below.refl _ w).alloc (Nat.le_refl _) _).alloc (by simp) _).alloc (by simp; omega) _).alloc (by simp; omega) _
 clear hW
 have HI := Lib.hid hI
 clear hI
 have hkl : t.kids.length ≤ 40000 := HKL.out
 obtain ⟨a0, a1, a2, a3⟩ := bxc4 HI.out.n
 have al := HI.out.n.lt
 go_wp2
 clear a0 a1 a2 a3 al
 go_loopw [14] (fun i wr => ∃ (m : Nat) (L : List TrV) (oa : Option Addr) (oc : Nat), m ≤ t.kids.length ∧ i = .int .i64 m ∧ Hid (BsI Z w (w.heap.size + 4) (w.heap.size + 1 + 1 + 1) [.string (bs t.name), .slice ao t.attrs.length ac, .slice ko t.kids.length kc, .string (bs t.text)] [.string (bs x.name), .slice xo x.attrs.length xc, .slice yo x.kids.length yc, .string (bs x.text)] [.string ⟨#[]⟩, .slice none 0 0, .slice none 0 0, .string ⟨#[]⟩] (.string (bs t.name)) (.slice none 0 0) [] ((t.kids.take m).flatMap (fun k => [G k, blankT [32]])) L (.slice oa L.length oc) wr)) (fun i _ => t.kids.length - (intOf i).toNat)
 case atStart => exact ⟨0, [], none, 0, Nat.zero_le _, rfl, HI.out⟩
 case round =>
  obtain ⟨m, L, oa, oc, hm, rfl, HR⟩ := hrel
  by_cases hlt : m < t.kids.length
  rotate_left
  · obtain rfl : m = t.kids.length := by omega
    have HLL : Hid (L.length ≤ 90000) := by
     have h1 := HR.out.mix.len
     rw [List.length_flatMap] at h1
     simp only [List.length_cons, List.length_nil, List.map_const', List.sum_replicate_nat, List.length_take] at h1
     show _ ≤ _
     omega
    have HXR := Lib.hid (HX.out.later HR.out.g)
    have o2 := HR.out.o.cell 2 _ rfl
    have ol := HR.out.o.lt
    obtain ⟨m0, m1, m2, m3⟩ := bxc4 HR.out.m
    have ml := HR.out.m.lt
    have HLT : Hid (SliceOf 4 trC (wr.alloc (.cells #[.string (bs x.name), .slice xo x.attrs.length xc, .slice yo x.kids.length yc, .string (bs x.text)] 25)) (.slice (some ⟨wr.heap.size, 0, none⟩) 1 1) ([(x, .slice xo x.attrs.length xc, .slice yo x.kids.length yc)] : List TrV)) := sliceLit trC_len wr ([(x, .slice xo x.attrs.length xc, .slice yo x.kids.length yc)] : List TrV) 25 wr.heap.size 1 rfl rfl (by unfold maxLen; simp)
    have HOA : Hid (Owns (w.heap.size + 4) 25 4 trC (wr.alloc (.cells #[.string (bs x.name), .slice xo x.attrs.length xc, .slice yo x.kids.length yc, .string (bs x.text)] 25)) (.slice oa L.length oc) L) := HR.out.mix.own.alloc _
    have HOO : Hid (∀ w8 : World, (wr.alloc (.cells #[.string (bs x.name), .slice xo x.attrs.length xc, .slice yo x.kids.length yc, .string (bs x.text)] 25)).grownBy w8 (Value.slice oa L.length oc).ownBlock → Box w8 (w.heap.size + 1 + 1 + 1) [.string (bs t.name), (.slice none 0 0), .slice oa L.length oc, .string ⟨#[]⟩]) := fun w8 h => (HR.out.o.alloc _).grown h (fun e => by have := (HR.out.mix.lt _ e.symm).1; omega)
    have HBZ : Hid (w.heap.size + 4 ≤ (wr.alloc (.cells #[.string (bs x.name), .slice xo x.attrs.length xc, .slice yo x.kids.length yc, .string (bs x.text)] 25)).heap.size) := by have := HR.out.hb; show _ ≤ (wr.heap.push _).size; rw [Array.size_push]; omega
    have HNM : Hid (∀ y ∈ ([(x, .slice xo x.attrs.length xc, .slice yo x.kids.length yc)] : List TrV), NodeX (fun j => ((Z j ∧ j < w.heap.size) ∨ (w.heap.size ≤ j ∧ j < w.heap.size + 4)) ∨ some j = (Value.slice oa L.length oc).ownBlock) wr y.1 y.2.1 y.2.2) := by
     intro y hy
     simp only [List.mem_cons, List.not_mem_nil, or_false] at hy
     obtain rfl := hy
     · exact HXR.out.keep (KeptX.refl _ _) (fun j _ h => by
        rcases h with (h | h) | h
        · exact .inl h.1
        · exact .inr h.1
        · have := (HR.out.mix.lt j h.symm).1; exact .inr (by omega))
    go_upto_region 13 with (at_builtin; go_loud (refine wpList_append_slice _ rfl _ _ 23 rfl (w.heap.size + 4) 25 Tryz.underlying23 info_node rfl (by decide) trC_len (.slice oa L.length oc) L rfl HOA.out _ ([(x, .slice xo x.attrs.length xc, .slice yo x.kids.length yc)] : List TrV) rfl HLT.out (fun y hy => tr_one' (HNM.out y hy)) (by have h1 := HLL.out; simp only [List.length_cons, List.length_nil]; omega) (by decide) HBZ.out ?_; intro v8 w8 hown8 hgrow8 hloc8; obtain ⟨a8, c8, hv8⟩ := hown8.shape; rw [show (L ++ ([(x, .slice xo x.attrs.length xc, .slice yo x.kids.length yc)] : List TrV)).length = L.length + 1 from by simp] at hv8; subst hv8; have hz8 := HOO.out w8 hgrow8; have z2 := hz8.cell 2 _ rfl; have zf2 := hz8.free 2; have zl := hz8.lt; have HO8 := Lib.hid hown8; have HG8 := Lib.hid hgrow8; have HL8 := Lib.hid hloc8; clear hown8 hgrow8 hloc8 hz8))
    refine wp_world ?_
    intro W8 hW8
    have HI8 := Lib.hid ((HR.out.below ((Below.refl _ _).alloc (Nat.le_refl _) (.cells #[.string (bs x.name), .slice xo x.attrs.length xc, .slice yo x.kids.length yc, .string (bs x.text)] 25))).step HO8.out HG8.out HL8.out rfl (fun y hy => (HNM.out y hy).later ((Below.refl _ _).alloc (Nat.le_refl _) _)))
    rw [← hW8] at HI8
    clear hW8 z2 zf2 zl HLT HOA HOO HBZ HNM HO8 HG8 HL8 HR
    clear o2 ol m0 m1 m2 m3 ml HXR
    obtain ⟨b0, b1, b2, b3⟩ := bxc4 HI8.out.o
    have bl := HI8.out.o.lt
    have hz8 : Box W8 (w.heap.size + 1 + 1) [.string ⟨#[]⟩, .slice none 0 0, .slice none 0 0, .string ⟨#[]⟩] := HI8.out.z
    obtain ⟨r0, r1, r2, r3⟩ := bxc4 hz8
    have rl := hz8.lt
    have rf0 := hz8.free 0
    have rf1 := hz8.free 1
    have rf2 := hz8.free 2
    have rf3 := hz8.free 3
    clear hz8
    go_wp2
    refine bodyPost_ret (v := .agg #[.string (bs t.name), (.slice none 0 0), .slice a8 (L.length + 1) c8, .string ⟨#[]⟩]) (by simp [results, Tryz.results64, go_sem, r0, r1, r2, r3]) rfl ?_
    have h1 : W8.grownBy ((((W8.setCell ⟨w.heap.size + 1 + 1, 0, none⟩ (.string (bs t.name))).setCell ⟨w.heap.size + 1 + 1, 1, none⟩ (.slice none 0 0)).setCell ⟨w.heap.size + 1 + 1, 2, none⟩ (.slice a8 (L.length + 1) c8)).setCell ⟨w.heap.size + 1 + 1, 3, none⟩ (.string ⟨#[]⟩)) (some (w.heap.size + 1 + 1)) := (((setCell_grown W8 _ 0 _).trans (setCell_grown _ _ 1 _)).trans (setCell_grown _ _ 2 _)).trans (setCell_grown _ _ 3 _)
    refine ⟨_, _, rfl, ?_, HI8.out.g.trans (gr_below h1 (by omega) HI8.out.g.size)⟩
    have h2 := HI8.out.node t.name
    rw [List.take_length] at h2
    exact h2.keep (KeptX.grown h1 (fun g e => by cases e; exact .inr rfl)) (fun _ _ h => .inl h)
  · have hmI : (m : Int) < (t.kids.length : Int) := by omega
    have hLT := Lib.hid hlt
    have HTD : Hid (((t.kids.take (m + 1)).flatMap (fun k => [G k, blankT [32]])) = (t.kids.take m).flatMap (fun k => [G k, blankT [32]]) ++ [G t.kids[m], blankT [32]]) := by
     show _ = _
     rw [List.take_succ_eq_append_getElem hlt, List.flatMap_append]
     simp
     rfl
    obtain ⟨g, o, a1, a2, a3, a4, rfl, hg, -, c0, c1, c2, c3, hn1⟩ := (HT.out.later HR.out.g).at m hlt
    have HN1 := Lib.hid hn1
    have HGK := Lib.hid (HG.out t.kids[m] (List.getElem_mem hlt))
    have HLL : Hid (L.length ≤ 90000) := by
     have h1 := HR.out.mix.len
     rw [List.length_flatMap] at h1
     simp only [List.length_cons, List.length_nil, List.map_const', List.sum_replicate_nat, List.length_take] at h1
     show _ ≤ _
     omega
    clear hn1
    have hks := HR.out.n.cell 2 _ rfl
    have hkl2 := HR.out.n.lt
    generalize t.kids[m] = k at *
    obtain ⟨kn, ka, kk, kx⟩ := k
    simp only [Tr.name, Tr.attrs, Tr.kids, Tr.text] at c0 c1 c2 c3 HN1
    go_upto_region 5 with fail
    refine wp_world ?_
    intro W5 hW5
    have x5 : Box W5 wr.heap.size [.string (bs kn), .slice a1 ka.length a2, .slice a3 kk.length a4, .string (bs kx)] := by rw [hW5]; exact Box.new wr [.string (bs kn), .slice a1 ka.length a2, .slice a3 kk.length a4, .string (bs kx)] _ _ rfl
    have hb5 : Below wr.heap.size wr W5 := by rw [hW5]; exact (Below.refl _ _).alloc (Nat.le_refl _) _
    clear hW5 c0 c1 c2 c3 hks hkl2 hg
    have HK5 := Lib.hid x5
    have HB5 := Lib.hid hb5
    have HN5 := Lib.hid (HN1.out.later hb5)
    have HX5 := Lib.hid (HX.out.later (HR.out.g.trans (hb5.mono HR.out.g.size)))
    have HM5 := Lib.hid (HR.out.m.below hb5 HR.out.m.lt)
    have HS5 : Hid (w.heap.size + 4 ≤ wr.heap.size) := HR.out.hb
    have HRO : Hid (∀ j, some j = (Value.slice oa L.length oc).ownBlock → w.heap.size + 4 ≤ j ∧ j < wr.heap.size) := fun j e => HR.out.mix.lt j e.symm
    clear x5 hb5 HN1
    obtain ⟨u, hu⟩ : ∃ u, u = G (.mk kn ka kk kx) := ⟨_, rfl⟩
    rw [← hu] at HTD HGK
    clear hu
    obtain ⟨q1, hq1⟩ : ∃ q, q = decide (kn = bDependency) := ⟨_, rfl⟩
    obtain ⟨q2, hq2⟩ : ∃ q, q = decide (kn = bDependencies) := ⟨_, rfl⟩
    have HQ1 : Hid (q1 = true → Turns 21 (.mk kn ka kk kx) x u) := fun h => HGK.out.1 (by show kn = _; rw [hq1] at h; simpa using h)
    have HQ2 : Hid (q2 = true → Turns 64 (.mk kn ka kk kx) x u) := fun h => HGK.out.2.1 (by show kn = _; rw [hq2] at h; simpa using h)
    have HQF : Hid (q1 = false → q2 = false → u = .mk kn ka kk kx) := fun h h' => HGK.out.2.2 (by show kn ≠ _; rw [hq1] at h; simpa using h) (by show kn ≠ _; rw [hq2] at h'; simpa using h')
    have h1 := bs_beq2 kn bDependency
    have h2 := bs_beq2 kn bDependencies
    rw [show ((bs bDependency : S)).toList = [100, 101, 112, 101, 110, 100, 101, 110, 99, 121] from by decide +kernel, ← hq1] at h1
    rw [show ((bs bDependencies : S)).toList = [100, 101, 112, 101, 110, 100, 101, 110, 99, 105, 101, 115] from by decide +kernel, ← hq2] at h2
    clear hq1 hq2 HGK
    have k0 := HK5.out.cell 0 _ rfl
    have kl := HK5.out.lt
    go_upto_block 2 with fail
    clear k0 kl
    go_cut [] from 18 to 29 (fun wx => ∃ d1 e1 d2 d3 e3 d4, Hid (Box wx wr.heap.size [.string (bs u.name), .slice d1 e1 d2, .slice d3 e3 d4, .string (bs u.text)] ∧ NodeX (fun j => ((Z j ∧ j < w.heap.size) ∨ (w.heap.size ≤ j ∧ j < w.heap.size + 4)) ∨ some j = (Value.slice oa L.length oc).ownBlock) wx u (.slice d1 e1 d2) (.slice d3 e3 d4) ∧ Below wr.heap.size wr wx))
    case first =>
     cases q1 with
     | true =>
      have HTU := Lib.hid (HQ1.out rfl)
      clear HQ1 HQ2 HQF h2
      obtain ⟨m0, m1, m2, m3⟩ := bxc4 HM5.out
      have ml := HM5.out.lt
      obtain ⟨k0, k1, k2, k3⟩ := bxc4 HK5.out
      have kl := HK5.out.lt
      have HCL := Lib.hid (HTU.out (fun j => Z j ∨ w.heap.size ≤ j) _ _ _ _ _ HN5.out HX5.out)
      unfold nodeV at HCL
      go_wp2_with fail
      refine HCL.out.mono ?_
      intro e w7 hO
      obtain ⟨dv, ev, rfl, hn7, hb7⟩ := hO
      obtain ⟨d1, d2, d3, d4, rfl, rfl, -, -⟩ := hn7.shape
      have HN7 := Lib.hid hn7
      have HK7 := Lib.hid (HK5.out.below hb7 HK5.out.lt)
      have HB7 := Lib.hid (HB5.out.trans (hb7.mono HB5.out.size))
      have HS7 : Hid (wr.heap.size < W5.heap.size) := HK5.out.lt
      clear hn7 hb7 HCL m0 m1 m2 m3 ml k0 k1 k2 k3 kl
      obtain ⟨k0, k1, k2, k3⟩ := bxc4 HK7.out
      have kf0 := HK7.out.free 0
      have kf1 := HK7.out.free 1
      have kf2 := HK7.out.free 2
      have kf3 := HK7.out.free 3
      have kl := HK7.out.lt
      unfold nodeV
      go_wp2
      go_meet
      case rel =>
       have h1 : w7.grownBy ((((w7.setCell ⟨wr.heap.size, 0, none⟩ (.string (bs u.name))).setCell ⟨wr.heap.size, 1, none⟩ (.slice d1 u.attrs.length d2)).setCell ⟨wr.heap.size, 2, none⟩ (.slice d3 u.kids.length d4)).setCell ⟨wr.heap.size, 3, none⟩ (.string (bs u.text))) (some wr.heap.size) := (((setCell_grown w7 _ 0 _).trans (setCell_grown _ _ 1 _)).trans (setCell_grown _ _ 2 _)).trans (setCell_grown _ _ 3 _)
       refine ⟨d1, _, d2, d3, _, d4, ((((HK7.out.set 0 _).set 1 _).set 2 _).set 3 _), ?_, HB7.out.trans (gr_below h1 (Nat.le_refl _) HB7.out.size)⟩
       exact HN7.out.keep (KeptX.grown h1 (fun g e => by cases e; exact ⟨.inr (by have := HS5.out; omega), HS7.out⟩)) (fun j _ h => by
        have h5 := HS5.out
        have h7 := HS7.out
        rcases h with (h | h) | h
        · exact ⟨.inl h.1, by omega⟩
        · exact ⟨.inr h.1, by omega⟩
        · have h8 := HRO.out j h; exact ⟨.inr (by omega), by omega⟩)
     | false =>
      cases q2 with
      | true =>
       have HTU := Lib.hid (HQ2.out rfl)
       clear HQ1 HQ2 HQF
       obtain ⟨m0, m1, m2, m3⟩ := bxc4 HM5.out
       have ml := HM5.out.lt
       obtain ⟨k0, k1, k2, k3⟩ := bxc4 HK5.out
       have kl := HK5.out.lt
       have HCL := Lib.hid (HTU.out (fun j => Z j ∨ w.heap.size ≤ j) _ _ _ _ _ HN5.out HX5.out)
       unfold nodeV at HCL
       go_wp2_with fail
       refine HCL.out.mono ?_
       intro e w7 hO
       obtain ⟨dv, ev, rfl, hn7, hb7⟩ := hO
       obtain ⟨d1, d2, d3, d4, rfl, rfl, -, -⟩ := hn7.shape
       have HN7 := Lib.hid hn7
       have HK7 := Lib.hid (HK5.out.below hb7 HK5.out.lt)
       have HB7 := Lib.hid (HB5.out.trans (hb7.mono HB5.out.size))
       have HS7 : Hid (wr.heap.size < W5.heap.size) := HK5.out.lt
       clear hn7 hb7 HCL m0 m1 m2 m3 ml k0 k1 k2 k3 kl
       obtain ⟨k0, k1, k2, k3⟩ := bxc4 HK7.out
       have kf0 := HK7.out.free 0
       have kf1 := HK7.out.free 1
       have kf2 := HK7.out.free 2
       have kf3 := HK7.out.free 3
       have kl := HK7.out.lt
       unfold nodeV
       go_wp2
       go_meet
       case rel =>
        have h1 : w7.grownBy ((((w7.setCell ⟨wr.heap.size, 0, none⟩ (.string (bs u.name))).setCell ⟨wr.heap.size, 1, none⟩ (.slice d1 u.attrs.length d2)).setCell ⟨wr.heap.size, 2, none⟩ (.slice d3 u.kids.length d4)).setCell ⟨wr.heap.size, 3, none⟩ (.string (bs u.text))) (some wr.heap.size) := (((setCell_grown w7 _ 0 _).trans (setCell_grown _ _ 1 _)).trans (setCell_grown _ _ 2 _)).trans (setCell_grown _ _ 3 _)
        refine ⟨d1, _, d2, d3, _, d4, ((((HK7.out.set 0 _).set 1 _).set 2 _).set 3 _), ?_, HB7.out.trans (gr_below h1 (Nat.le_refl _) HB7.out.size)⟩
        exact HN7.out.keep (KeptX.grown h1 (fun g e => by cases e; exact ⟨.inr (by have := HS5.out; omega), HS7.out⟩)) (fun j _ h => by
         have h5 := HS5.out
         have h7 := HS7.out
         rcases h with (h | h) | h
         · exact ⟨.inl h.1, by omega⟩
         · exact ⟨.inr h.1, by omega⟩
         · have h8 := HRO.out j h; exact ⟨.inr (by omega), by omega⟩)
      | false =>
       have HUE := Lib.hid (HQF.out rfl rfl)
       clear HQ1 HQ2 HQF
       have k0 := HK5.out.cell 0 _ rfl
       have kl := HK5.out.lt
       go_wp2
       go_meet
       case rel =>
        rw [HUE.out]
        exact ⟨a1, _, a2, a3, _, a4, HK5.out, HN5.out.keep (KeptX.refl _ _) (fun j _ h => by
         rcases h with (h | h) | h
         · exact .inl h.1
         · exact .inr h.1
         · have := (HRO.out j h).1; exact .inr (by omega)), HB5.out⟩
    case rest =>
     obtain ⟨d1, e1, d2, d3, e3, d4, hc⟩ := hcut
     have HK6 := Lib.hid hc.out.1
     have HN6 := Lib.hid hc.out.2.1
     have HI6 := Lib.hid (HR.out.below hc.out.2.2)
     have HB6 := Lib.hid hc.out.2.2
     clear hc HR HK5 HB5 HN5 HX5 HM5 HQ1 HQ2 HQF h1 h2
     obtain ⟨k0, k1, k2, k3⟩ := bxc4 HK6.out
     have kl := HK6.out.lt
     have o2 := HI6.out.o.cell 2 _ rfl
     have ol := HI6.out.o.lt
     have HLT : Hid (SliceOf 4 trC (wc.alloc (.cells #[.string (bs u.name), .slice d1 e1 d2, .slice d3 e3 d4, .string (bs u.text), .string ⟨#[]⟩, .slice none 0 0, .slice none 0 0, .string ⟨#[32]⟩] 25)) (.slice (some ⟨wc.heap.size, 0, none⟩) 2 2) ([(u, .slice d1 e1 d2, .slice d3 e3 d4), (blankT [32], .slice none 0 0, .slice none 0 0)] : List TrV)) := sliceLit trC_len wc ([(u, .slice d1 e1 d2, .slice d3 e3 d4), (blankT [32], .slice none 0 0, .slice none 0 0)] : List TrV) 25 wc.heap.size 2 rfl rfl (by unfold maxLen; simp)
     have HOA : Hid (Owns (w.heap.size + 4) 25 4 trC (wc.alloc (.cells #[.string (bs u.name), .slice d1 e1 d2, .slice d3 e3 d4, .string (bs u.text), .string ⟨#[]⟩, .slice none 0 0, .slice none 0 0, .string ⟨#[32]⟩] 25)) (.slice oa L.length oc) L) := HI6.out.mix.own.alloc _
     have HOO : Hid (∀ w8 : World, (wc.alloc (.cells #[.string (bs u.name), .slice d1 e1 d2, .slice d3 e3 d4, .string (bs u.text), .string ⟨#[]⟩, .slice none 0 0, .slice none 0 0, .string ⟨#[32]⟩] 25)).grownBy w8 (Value.slice oa L.length oc).ownBlock → Box w8 (w.heap.size + 1 + 1 + 1) [.string (bs t.name), (.slice none 0 0), .slice oa L.length oc, .string ⟨#[]⟩]) := fun w8 h => (HI6.out.o.alloc _).grown h (fun e => by have := (HI6.out.mix.lt _ e.symm).1; omega)
     have HBZ : Hid (w.heap.size + 4 ≤ (wc.alloc (.cells #[.string (bs u.name), .slice d1 e1 d2, .slice d3 e3 d4, .string (bs u.text), .string ⟨#[]⟩, .slice none 0 0, .slice none 0 0, .string ⟨#[32]⟩] 25)).heap.size) := by have := HI6.out.hb; show _ ≤ (wc.heap.push _).size; rw [Array.size_push]; omega
     have HNM : Hid (∀ y ∈ ([(u, .slice d1 e1 d2, .slice d3 e3 d4), (blankT [32], .slice none 0 0, .slice none 0 0)] : List TrV), NodeX (fun j => ((Z j ∧ j < w.heap.size) ∨ (w.heap.size ≤ j ∧ j < w.heap.size + 4)) ∨ some j = (Value.slice oa L.length oc).ownBlock) wc y.1 y.2.1 y.2.2) := by
      intro y hy
      simp only [List.mem_cons, List.not_mem_nil, or_false] at hy
      rcases hy with rfl | rfl
      · exact HN6.out
      · exact blank_node _ _ _
     go_upto_region 11 with (at_builtin; go_loud (refine wpList_append_slice _ rfl _ _ 23 rfl (w.heap.size + 4) 25 Tryz.underlying23 info_node rfl (by decide) trC_len (.slice oa L.length oc) L rfl HOA.out _ ([(u, .slice d1 e1 d2, .slice d3 e3 d4), (blankT [32], .slice none 0 0, .slice none 0 0)] : List TrV) rfl HLT.out (fun y hy => tr_one' (HNM.out y hy)) (by have h1 := HLL.out; simp only [List.length_cons, List.length_nil]; omega) (by decide) HBZ.out ?_; intro v8 w8 hown8 hgrow8 hloc8; obtain ⟨a8, c8, hv8⟩ := hown8.shape; rw [show (L ++ ([(u, .slice d1 e1 d2, .slice d3 e3 d4), (blankT [32], .slice none 0 0, .slice none 0 0)] : List TrV)).length = L.length + 2 from by simp] at hv8; subst hv8; have hz8 := HOO.out w8 hgrow8; have z2 := hz8.cell 2 _ rfl; have zf2 := hz8.free 2; have zl := hz8.lt; have HO8 := Lib.hid hown8; have HG8 := Lib.hid hgrow8; have HL8 := Lib.hid hloc8; clear hown8 hgrow8 hloc8 hz8))
     refine wp_world ?_
     intro W8 hW8
     have HI8 := Lib.hid ((HI6.out.below ((Below.refl _ _).alloc (Nat.le_refl _) (.cells #[.string (bs u.name), .slice d1 e1 d2, .slice d3 e3 d4, .string (bs u.text), .string ⟨#[]⟩, .slice none 0 0, .slice none 0 0, .string ⟨#[32]⟩] 25))).step HO8.out HG8.out HL8.out rfl (fun y hy => (HNM.out y hy).later ((Below.refl _ _).alloc (Nat.le_refl _) _)))
     rw [← hW8] at HI8
     clear hW8 z2 zf2 zl HLT HOA HOO HBZ HNM HO8 HG8 HL8 HI6
     clear k0 k1 k2 k3 kl o2 ol HK6 HN6 HB6
     go_wp2
     go_roundw
     case rel =>
      refine ⟨m + 1, L ++ [(u, .slice d1 e1 d2, .slice d3 e3 d4), (blankT [32], .slice none 0 0, .slice none 0 0)], a8, c8, hLT.out, by go_num, ?_⟩
      have h1 := HI8.out
      rw [HTD.out, show (L ++ ([(u, .slice d1 e1 d2, .slice d3 e3 d4), (blankT [32], .slice none 0 0, .slice none 0 0)] : List TrV)).length = L.length + 2 from by simp]
      exact h1
     case measure => simp [intOf]; have := hLT.out; omega

end Go.Proofs.YtbbbfjcikhpmbaaGreat
