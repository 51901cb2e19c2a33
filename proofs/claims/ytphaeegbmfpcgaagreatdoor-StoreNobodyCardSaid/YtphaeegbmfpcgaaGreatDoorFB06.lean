/- The walk of the program's reader's token where it reads up to an end, or letters; the conditions stand in the theorems. -/
import Derived.Test.YtphaeegbmfpcgaaGreatDoorFB04
import Derived.Deep.AppendLies
import Derived.Deep.RegionLaw
import Derived.Test.YtphaeegbmfpcgaaGreatDoorFB05
namespace Go.Proofs.YtphaeegbmfpcgaaGreatDoor
open Go Go.RowKit

/-- A token in memory: with its attributes' slice and its place. -/
structure TkM where
 t : Tk
 av : Value
 off : Int
 line : Int
 col : Int
def tkC (x : TkM) : List Value := [.int .i64 x.t.kind, .string (bs x.t.name), x.av, .string (bs x.t.text), .int .i64 x.off, .int .i64 x.line, .int .i64 x.col]
theorem tkC_len (x : TkM) : (tkC x).length = 7 := rfl
theorem info_token : (Tryz.prog.info? 157).map (fun i => (i.zero, i.size, i.bytes)) = some (some (.agg #[.int .i64 0, .string ⟨#[]⟩, .slice none 0 0, .string ⟨#[]⟩, .int .i64 0, .int .i64 0, .int .i64 0]), 7, 88) := by kernel_rfl
/-- The reader with what it has made so far. -/
structure Toks (w : World) (b : Nat) (s : S) (l : Bs) (ov : Value) (L : List TkM) : Prop where
 rd : Rd w b s l ov
 own : Owns (b + 1) 157 7 tkC w ov L
 att : ∀ x ∈ L, Owns (b + 1) 176 2 atC w x.av x.t.attrs
def OutT (b : Nat) (s : S) (p : Nat) (L : List TkM) (w : World) : Res Tk → Ending → World → Prop
 | .ok t r => fun e w' => e = .returned (.tuple #[]) ∧ ∃ ov av, Toks w' b s r ov (L ++ [⟨t, av, p, 0, 0⟩]) ∧ Below b w w'
 | .bad e r => fun x w' => x = .panicked [{ v := faultV e (pos s r), recovered := false }] ∧ Below b w w'
theorem below_grown {b : Nat} {w w' : World} (h : w.grownBy w' (some b)) (hb : b ≤ w.heap.size) : Below b w w' := ⟨h.os, h.tape, h.output, h.size, fun k hk => h.block k (by omega) (by simp; omega)⟩
theorem Toks.kept {w w' : World} {b : Nat} {s : S} {l r : Bs} {ov : Value} {L : List TkM} (h : Toks w b s l ov L) (hg : w.grownBy w' (some b)) (hr : Rd w' b s r ov) : Toks w' b s r ov L :=
 ⟨hr, h.own.keptR hg (by omega), fun x hx => (h.att x hx).keptR hg (by omega)⟩
/-- append of one element to an owned slice, as a step of a region that draws. -/
theorem step_append_one {P : Program} {ops : Array Oper} {o : Oper} {a : Act} {w : World} {K : Act → World → Prop} {Q : Exit → Act → World → Prop} {E : Prop} {α : Type} {C : α → List Value} (hgd : o.guard = none) (s x : Operand) (t : TypeId)
    (ho : o.op = .call { callee := .builtin .append, args := #[s, x], argTypes := #[t, t] })
    (base : Nat) (e : TypeId) {z : Value} {size bytes : Nat} (ht : P.underlying t = some (.slice e)) (hinfo : (P.info? e).map (fun i => (i.zero, i.size, i.bytes)) = some (some z, size, bytes)) (hzs : z.cells.size = size) (hsz : 0 < size) (hC : ∀ y, (C y).length = size)
    (v : Value) (l : List α) (hs : a.eval s = v) (hown : Owns base e size C w v l) (H : Nat) (y : α) (hx : a.eval x = .slice (some ⟨H, 0, none⟩) 1 1) (hnews : ∀ j u, (C y)[j]? = some u → w.cell? ⟨H, j, none⟩ = some u) (h1 : ∀ u ∈ C y, u.oneCell' = true)
    (hbytes : (l.length + 1) * bytes ≤ 140737488355328) (hb0 : 0 < bytes) (hbase : base ≤ w.heap.size) (N : Nat) (hN : w.heap.size = N)
    (h : ∀ g cap w', Owns base e size C w' (.slice (some ⟨g, 0, none⟩) (l.length + 1) cap) (l ++ [y]) → w.grownBy w' v.ownBlock → (v.ownBlock = some g ∨ g = N) → g < w'.heap.size → K (a.put o.dst (.slice (some ⟨g, 0, none⟩) (l.length + 1) cap)) w') :
    if Region.wanted o (yielded ops a.tmps) = true then Oper.wp P o a w K Q else E := by
 have hlen63 : l.length + 1 ≤ maxLen := by
  have : l.length + 1 ≤ (l.length + 1) * bytes := Nat.le_mul_of_pos_right _ hb0
  unfold maxLen; omega
 obtain ⟨i, hi, hz, hsize, hby⟩ := info_parts hinfo
 refine step_append_lies w hgd s x t ho base e i z size bytes ht hi hz hsize hby hzs hsz v l.length (l.flatMap C) hs hown ⟨H, 0, none⟩ 1 1 (C y) hx (by rw [hC]; simp) (fun j u hu => by rw [Addr.add_lit, Nat.zero_add]; exact hnews j u hu) h1 (by decide) hlen63 hbytes hbase N hN ?_
 intro g cap w' h2 h3 h4 h5
 refine h g cap w' ?_ h3 h4 h5
 unfold Owns
 rw [List.length_append, List.flatMap_append]
 simpa using h2
theorem Owns.drew {α : Type} {base : Nat} {E : TypeId} {n : Nat} {C : α → List Value} {w : World} {v : Value} {l : List α} (h : Owns base E n C w v l) : Owns base E n C w.drew v l := h
theorem Box.drew {w : World} {b : Nat} {cs : List Value} (h : Box w b cs) : Box w.drew b cs := ⟨h.lt, h.cell, h.free⟩
theorem own_types {α β : Type} {b1 b2 E1 E2 n1 n2 : Nat} {C1 : α → List Value} {C2 : β → List Value} {w : World} {v1 v2 : Value} {l1 : List α} {l2 : List β} (h1 : Owns b1 E1 n1 C1 w v1 l1) (h2 : Owns b2 E2 n2 C2 w v2 l2) (hE : E1 ≠ E2) : v1.ownBlock = none ∨ v1.ownBlock ≠ v2.ownBlock := by
 rcases h1.2 with ⟨rfl, -⟩ | ⟨g, cap, cur, rfl, -, hg, -⟩
 · exact .inl rfl
 · right
   rcases h2.2 with ⟨rfl, -⟩ | ⟨g2, cap2, cur2, rfl, -, hg2, -⟩
   · simp [Value.ownBlock]
   · intro e
     simp only [Value.ownBlock, Option.some.injEq] at e
     subst e
     rw [hg] at hg2
     simp only [Option.some.injEq, Obj.cells.injEq] at hg2
     exact hE hg2.2.1
theorem Toks.push {w W3 w8 : World} {b : Nat} {s : S} {r : Bs} {ov v : Value} {L : List TkM} {x : TkM} {o : Obj} (hT : Toks W3 b s r ov L) (hG : w.grownBy W3 (some b)) (hlt : b < w.heap.size) (hav : Owns (b + 1) 176 2 atC W3 x.av x.t.attrs)
    (hg : ((W3.alloc o).drew).grownBy w8 ov.ownBlock) (hown : Owns (b + 1) 157 7 tkC w8 v (L ++ [x])) :
    Toks (w8.setCell ⟨b, 2, none⟩ v) b s r v (L ++ [x]) ∧ Below b w (w8.setCell ⟨b, 2, none⟩ v) := by
 have hW := hG.size
 have hne : some b ≠ ov.ownBlock := fun e => by have := (hT.own.lt b e.symm).1; omega
 have hbx : Box w8 b [.string s, .int .i64 (pos s r : Nat), ov] := (hT.rd.box.alloc o).drew.grown hg hne
 refine ⟨⟨⟨hbx.set 2 v, hT.rd.suf⟩, hown.keptR (setCell_grown w8 b 2 v) (by omega), fun y hy => ?_⟩, ?_⟩
 · have h1 : Owns (b + 1) 176 2 atC W3 y.av y.t.attrs := by
    rcases List.mem_append.1 hy with h | h
    · exact hT.att y h
    · simp at h; subst h; exact hav
   have h2 : Owns (b + 1) 176 2 atC ((W3.alloc o).drew) y.av y.t.attrs := (h1.alloc o).drew
   exact (h2.kept hg (own_types h1 hT.own (by decide))).keptR (setCell_grown w8 b 2 v) (by omega)
 · refine ⟨hg.os.trans hG.os, hg.tape.trans hG.tape, hg.output.trans hG.output, ?_, fun k hk => ?_⟩
   · have := hg.size
     simp [World.setCell] at this ⊢; omega
   · have h1 : (w8.setCell ⟨b, 2, none⟩ v).heap[k]? = w8.heap[k]? := Below.heap_setCell w8 ⟨b, 2, none⟩ v k (by simp; omega)
     have h2 : w8.heap[k]? = ((W3.alloc o).drew).heap[k]? := hg.block k (by simp; omega) (fun e => by have := (hT.own.lt k e.symm).1; omega)
     have h3 : ((W3.alloc o).drew).heap[k]? = W3.heap[k]? := Below.heap_alloc W3 o k (by omega)
     rw [h1, h2, h3]
     exact hG.block k (by omega) (by simp; omega)
theorem grown_set {w x : World} {row : Option Nat} (h : w.grownBy x row) {k : Nat} (hk : w.heap.size ≤ k) (j : Nat) (v : Value) : w.grownBy (x.setCell ⟨k, j, none⟩ v) row :=
 ⟨h.os, h.tape, h.output, by simpa [World.setCell] using h.size, fun i hi hne => (Below.heap_setCell x ⟨k, j, none⟩ v i (by simp; omega)).trans (h.block i hi hne)⟩
theorem Rd.setOther {w : World} {b : Nat} {s : S} {l : Bs} {ov : Value} (h : Rd w b s l ov) {k : Nat} (hk : k ≠ b) (j : Nat) (v : Value) : Rd (w.setCell ⟨k, j, none⟩ v) b s l ov :=
 ⟨h.box.grownB (setCell_grown w k j v) (Ne.symm hk), h.suf⟩
set_option maxRecDepth 100000 in
set_option maxHeartbeats 8000000 in
theorem tok_note (b : Nat) (s : S) (l : Bs) (ao : Option Addr) (cap : Nat) (L : List TkM) (m : Int) (w : World) (h : Toks w b s l (.slice ao L.length cap) L) (hs : s.size ≤ 65536) (hm : w.cell? ⟨0, 0, none⟩ = some (.int .i64 m)) (hL : L.length ≤ 1000000)
    (hyes : sNote.isPrefixOf l = true) :
    Calls Tryz.prog 121 #[.pointer (some ⟨b, 0, none⟩)] w (OutT b s (pos s l) L w ((plain eNote (l.drop 4)).map fun t => ⟨5, [], [], t⟩)) := by
 have hlt0 := h.rd.box.lt
 have c1 := h.rd.c1
 have H0 := Lib.hid h
 have hs2 : s.size ≤ 1000000 := by omega
 have HM := Lib.hid hm
 have hp := pos_add h.rd.suf
 have hpb : (pos s l : Int) ≤ 65536 := by omega
 have HA : Hid (∀ w, Rd w b s l (.slice ao L.length cap) → Calls Tryz.prog 153 #[.pointer (some ⟨b, 0, none⟩), .string ⟨#[60, 33, 45, 45]⟩] w (Qt (.bool true) w)) := fun w h => by
  have := has_pre b s l (.slice ao L.length cap) ⟨#[60, 33, 45, 45]⟩ w h
  rw [show (⟨#[60, 33, 45, 45]⟩ : S).data.toList.isPrefixOf l = true from hyes] at this; exact this
 have hlen : sNote.length ≤ l.length := (List.isPrefixOf_iff_prefix.1 hyes).length_le
 clear hyes
 have HU : Hid (∀ w, Rd w b s l (.slice ao L.length cap) → w.cell? ⟨0, 0, none⟩ = some (.int .i64 m) → Calls Tryz.prog 154 #[.pointer (some ⟨b, 0, none⟩), .string ⟨#[60, 33, 45, 45]⟩, .string ⟨#[45, 45, 62]⟩] w (Out (fun t => .string (bs t)) b s (.slice ao L.length cap) w (plain eNote (l.drop 4)))) := fun w h hm =>
  until_any b s ⟨#[60, 33, 45, 45]⟩ ⟨#[45, 45, 62]⟩ l (l.drop 4) (.slice ao L.length cap) m w h rfl hlen hs2 hm (by simp) (by decide)
 clear h hm
 have hR : Rd (w.alloc (.cells #[.int .i64 0, .string ⟨#[]⟩, .slice none 0 0, .string ⟨#[]⟩, .int .i64 (pos s l), .int .i64 0, .int .i64 0] 157)) b s l (.slice ao L.length cap) := H0.out.rd.below ((Below.refl _ _).alloc (Nat.le_refl _) _)
 go_enter Tryz.func121, Tryz.ntmps121
 go_wp2_with fail
 refine Calls.world ?_
 intro W hW
 have hx : Box W w.heap.size [.int .i64 0, .string ⟨#[]⟩, .slice none 0 0, .string ⟨#[]⟩, .int .i64 (pos s l), .int .i64 0, .int .i64 0] := by rw [hW]; exact Box.new w _ _ _ rfl
 have hG : w.grownBy W (some b) := by rw [hW]; exact World.grownBy_alloc _ _ _
 rw [← hW] at hR
 have hm : W.cell? ⟨0, 0, none⟩ = some (.int .i64 m) := by rw [hW, World.cell?_alloc_lt _ _ _ (by simp; omega)]; exact HM.out
 clear hW
 clear c1
 refine (HA.out W hR).mono ?_
 rintro e w1 ⟨rfl, n0, rfl⟩
 have hcall := HU.out (W.drewN n0) (hR.drewN _) hm
 cases hpl : plain eNote (l.drop 4) with
 | bad x r =>
  rw [hpl] at hcall
  have HP := Lib.hid hpl
  clear hpl
  have HCL := Lib.hid hcall
  clear hcall hR hx
  go_wp2_with fail
  refine HCL.out.mono ?_
  intro e w2 hO
  obtain ⟨rfl, hg⟩ : Bad x s r b _ e w2 := hO
  go_wp2
  rw [HP.out]
  exact ⟨rfl, rfl, below_grown ((hG.trans (grownN _ _ _)).trans hg) (by omega)⟩
 | ok t r =>
  rw [hpl] at hcall
  have HP := Lib.hid hpl
  clear hpl
  have HCL := Lib.hid hcall
  clear hcall
  go_wp2_with fail
  refine HCL.out.mono ?_
  intro e w2 hO
  obtain ⟨rfl, hR2, hg⟩ : Goes (.string (bs t)) b s r (.slice ao L.length cap) _ e w2 := hO
  have hx2 := (hx.drewN n0).grownB hg (by omega)
  have hG2 := (hG.trans (grownN _ n0 _)).trans hg
  have q0 := hx2.cell 0 _ rfl
  have q3 := hx2.cell 3 _ rfl
  have qf0 := hx2.free 0
  have qf3 := hx2.free 3
  have qlt := hx2.lt
  have HX2 := Lib.hid hx2
  have HG2 := Lib.hid hG2
  have HR2 := Lib.hid hR2
  clear hx hx2 hg hG hG2 hR hR2 hm HCL
  go_wp2
  refine wp_world ?_
  intro W3 hW3
  have hx3 : Box W3 w.heap.size [.int .i64 5, .string ⟨#[]⟩, .slice none 0 0, .string (bs t), .int .i64 (pos s l), .int .i64 0, .int .i64 0] := by rw [hW3]; exact (HX2.out.set 0 _).set 3 _
  have hR3 : Rd W3 b s r (.slice ao L.length cap) := by rw [hW3]; exact (HR2.out.setOther (by omega) _ _).setOther (by omega) _ _
  have hG3 : w.grownBy W3 (some b) := by rw [hW3]; exact grown_set (grown_set HG2.out (Nat.le_refl _) _ _) (Nat.le_refl _) _ _
  have HAV : Hid (Owns (b + 1) 176 2 atC W3 (.slice none 0 0) ([] : List At2)) := Owns.nil
  clear hW3 HX2 HG2 HR2 q0 q3 qf0 qf3 qlt
  have c2 := hR3.c2
  have f2 := hR3.box.free 2
  have hlt3 := hR3.box.lt
  obtain ⟨t0, t1, t2, t3, t4, t5, t6⟩ := bxc7 hx3
  have tlt := hx3.lt
  have HT3 := Lib.hid (H0.out.kept hG3 hR3)
  have HR3 := Lib.hid hR3
  have HG3 := Lib.hid hG3
  clear hx3 hR3 hG3
  have hne8 : Hid (some b ≠ (Value.slice ao L.length cap).ownBlock) := fun e => by have := (HT3.out.own.lt b e.symm).1; omega
  have hbx8 : Hid (Box ((W3.alloc (.cells (tkC ⟨⟨5, [], [], t⟩, .slice none 0 0, pos s l, 0, 0⟩).toArray 157)).drew) b [.string s, .int .i64 (pos s r : Nat), .slice ao L.length cap]) := (HR3.out.box.alloc _).drew
  have hnw : ∀ j u, (tkC ⟨⟨5, [], [], t⟩, .slice none 0 0, pos s l, 0, 0⟩)[j]? = some u → ((W3.alloc (.cells (tkC ⟨⟨5, [], [], t⟩, .slice none 0 0, pos s l, 0, 0⟩).toArray 157)).drew).cell? ⟨W3.heap.size, j, none⟩ = some u := fun j u hu => (Box.new W3 (tkC ⟨⟨5, [], [], t⟩, .slice none 0 0, pos s l, 0, 0⟩) 157 _ rfl).cell j u hu
  have hco : ∀ u ∈ tkC ⟨⟨5, [], [], t⟩, .slice none 0 0, pos s l, 0, 0⟩, u.oneCell' = true := by intro u hu; simp [tkC] at hu; rcases hu with rfl | rfl | rfl | rfl | rfl | rfl | rfl <;> rfl
  have HNW := Lib.hid hnw
  have HCO := Lib.hid hco
  have hown4 := Lib.hid ((HT3.out.own.alloc (.cells (tkC ⟨⟨5, [], [], t⟩, .slice none 0 0, pos s l, 0, 0⟩).toArray 157)).drew)
  have hbl : Hid ((L.length + 1) * 88 ≤ 140737488355328) := by show _ ≤ _; omega
  have hbs : Hid (b + 1 ≤ ((W3.alloc (.cells (tkC ⟨⟨5, [], [], t⟩, .slice none 0 0, pos s l, 0, 0⟩).toArray 157)).drew).heap.size) := by show _ ≤ _; simp; omega
  have hsz4 : Hid (((W3.alloc (.cells (tkC ⟨⟨5, [], [], t⟩, .slice none 0 0, pos s l, 0, 0⟩).toArray 157)).drew).heap.size = W3.heap.size + 1) := by show _ = _; simp
  clear hnw hco
  go_region_law (first | (refine step_append_one rfl (.tmp 110) (.tmp 112) 149 rfl (b + 1) 157 Tryz.underlying149 info_token rfl (by decide) tkC_len (.slice ao L.length cap) L (by simp [Act.eval]) hown4.out W3.heap.size ⟨⟨5, [], [], t⟩, .slice none 0 0, pos s l, 0, 0⟩ (by simp [Act.eval]) HNW.out HCO.out hbl.out (by decide) hbs.out (W3.heap.size + 1) hsz4.out ?_; intro g8 cap8 w8 hown8 hgrow8 hat8 hlt8; have hb9 := Lib.hid (hbx8.out.grown hgrow8 hne8.out); have e2 := hb9.out.cell 2 _ rfl; have ef2 := hb9.out.free 2; have el2 := hb9.out.lt; have ho9 := Lib.hid hown8; have hg9 := Lib.hid hgrow8; clear hown8 hgrow8 hat8))
  all_goals
   go_end0
   rw [HP.out]
   obtain ⟨h1, h2⟩ := HT3.out.push HG3.out hlt0 (x := ⟨⟨5, [], [], t⟩, .slice none 0 0, pos s l, 0, 0⟩) HAV.out hg9.out ho9.out
   exact ⟨rfl, _, _, h1, h2⟩
set_option maxRecDepth 100000 in
set_option maxHeartbeats 8000000 in
theorem tok_data (b : Nat) (s : S) (l : Bs) (ao : Option Addr) (cap : Nat) (L : List TkM) (m : Int) (w : World) (h : Toks w b s l (.slice ao L.length cap) L) (hs : s.size ≤ 65536) (hm : w.cell? ⟨0, 0, none⟩ = some (.int .i64 m)) (hL : L.length ≤ 1000000)
    (hno : sNote.isPrefixOf l = false) (hyes : sData.isPrefixOf l = true) :
    Calls Tryz.prog 121 #[.pointer (some ⟨b, 0, none⟩)] w (OutT b s (pos s l) L w ((plain eData (l.drop 9)).map fun t => ⟨4, [], [], t⟩)) := by
 have hlt0 := h.rd.box.lt
 have c1 := h.rd.c1
 have H0 := Lib.hid h
 have hs2 : s.size ≤ 1000000 := by omega
 have HM := Lib.hid hm
 have hp := pos_add h.rd.suf
 have hpb : (pos s l : Int) ≤ 65536 := by omega
 have HA : Hid (∀ w, Rd w b s l (.slice ao L.length cap) → Calls Tryz.prog 153 #[.pointer (some ⟨b, 0, none⟩), .string ⟨#[60, 33, 45, 45]⟩] w (Qt (.bool false) w)) := fun w h => by
  have := has_pre b s l (.slice ao L.length cap) ⟨#[60, 33, 45, 45]⟩ w h
  rw [show (⟨#[60, 33, 45, 45]⟩ : S).data.toList.isPrefixOf l = false from hno] at this; exact this
 have HB : Hid (∀ w, Rd w b s l (.slice ao L.length cap) → Calls Tryz.prog 153 #[.pointer (some ⟨b, 0, none⟩), .string ⟨#[60, 33, 91, 67, 68, 65, 84, 65, 91]⟩] w (Qt (.bool true) w)) := fun w h => by
  have := has_pre b s l (.slice ao L.length cap) ⟨#[60, 33, 91, 67, 68, 65, 84, 65, 91]⟩ w h
  rw [show (⟨#[60, 33, 91, 67, 68, 65, 84, 65, 91]⟩ : S).data.toList.isPrefixOf l = true from hyes] at this; exact this
 have hlen : sData.length ≤ l.length := (List.isPrefixOf_iff_prefix.1 hyes).length_le
 clear hyes hno
 have HU : Hid (∀ w, Rd w b s l (.slice ao L.length cap) → w.cell? ⟨0, 0, none⟩ = some (.int .i64 m) → Calls Tryz.prog 154 #[.pointer (some ⟨b, 0, none⟩), .string ⟨#[60, 33, 91, 67, 68, 65, 84, 65, 91]⟩, .string ⟨#[93, 93, 62]⟩] w (Out (fun t => .string (bs t)) b s (.slice ao L.length cap) w (plain eData (l.drop 9)))) := fun w h hm =>
  until_any b s ⟨#[60, 33, 91, 67, 68, 65, 84, 65, 91]⟩ ⟨#[93, 93, 62]⟩ l (l.drop 9) (.slice ao L.length cap) m w h rfl hlen hs2 hm (by simp) (by decide)
 clear h hm
 have hR : Rd (w.alloc (.cells #[.int .i64 0, .string ⟨#[]⟩, .slice none 0 0, .string ⟨#[]⟩, .int .i64 (pos s l), .int .i64 0, .int .i64 0] 157)) b s l (.slice ao L.length cap) := H0.out.rd.below ((Below.refl _ _).alloc (Nat.le_refl _) _)
 go_enter Tryz.func121, Tryz.ntmps121
 go_wp2_with fail
 refine Calls.world ?_
 intro W hW
 have hx : Box W w.heap.size [.int .i64 0, .string ⟨#[]⟩, .slice none 0 0, .string ⟨#[]⟩, .int .i64 (pos s l), .int .i64 0, .int .i64 0] := by rw [hW]; exact Box.new w _ _ _ rfl
 have hG : w.grownBy W (some b) := by rw [hW]; exact World.grownBy_alloc _ _ _
 rw [← hW] at hR
 have hm : W.cell? ⟨0, 0, none⟩ = some (.int .i64 m) := by rw [hW, World.cell?_alloc_lt _ _ _ (by simp; omega)]; exact HM.out
 clear hW
 clear c1
 refine (HA.out W hR).mono ?_
 rintro e w1 ⟨rfl, n0, rfl⟩
 go_wp2_with fail
 refine (HB.out _ (hR.drewN _)).mono ?_
 rintro e w1 ⟨rfl, n1, rfl⟩
 have hcall := HU.out (W.drewN (n0 + n1)) (hR.drewN _) hm
 cases hpl : plain eData (l.drop 9) with
 | bad x r =>
  rw [hpl] at hcall
  have HP := Lib.hid hpl
  clear hpl
  have HCL := Lib.hid hcall
  clear hcall hR hx
  go_wp2_with fail
  refine HCL.out.mono ?_
  intro e w2 hO
  obtain ⟨rfl, hg⟩ : Bad x s r b _ e w2 := hO
  go_wp2
  rw [HP.out]
  exact ⟨rfl, rfl, below_grown ((hG.trans (grownN _ _ _)).trans hg) (by omega)⟩
 | ok t r =>
  rw [hpl] at hcall
  have HP := Lib.hid hpl
  clear hpl
  have HCL := Lib.hid hcall
  clear hcall
  go_wp2_with fail
  refine HCL.out.mono ?_
  intro e w2 hO
  obtain ⟨rfl, hR2, hg⟩ : Goes (.string (bs t)) b s r (.slice ao L.length cap) _ e w2 := hO
  have hx2 := (hx.drewN (n0 + n1)).grownB hg (by omega)
  have hG2 := (hG.trans (grownN _ (n0 + n1) _)).trans hg
  have q0 := hx2.cell 0 _ rfl
  have q3 := hx2.cell 3 _ rfl
  have qf0 := hx2.free 0
  have qf3 := hx2.free 3
  have qlt := hx2.lt
  have HX2 := Lib.hid hx2
  have HG2 := Lib.hid hG2
  have HR2 := Lib.hid hR2
  clear hx hx2 hg hG hG2 hR hR2 hm HCL
  go_wp2
  refine wp_world ?_
  intro W3 hW3
  have hx3 : Box W3 w.heap.size [.int .i64 4, .string ⟨#[]⟩, .slice none 0 0, .string (bs t), .int .i64 (pos s l), .int .i64 0, .int .i64 0] := by rw [hW3]; exact (HX2.out.set 0 _).set 3 _
  have hR3 : Rd W3 b s r (.slice ao L.length cap) := by rw [hW3]; exact (HR2.out.setOther (by omega) _ _).setOther (by omega) _ _
  have hG3 : w.grownBy W3 (some b) := by rw [hW3]; exact grown_set (grown_set HG2.out (Nat.le_refl _) _ _) (Nat.le_refl _) _ _
  have HAV : Hid (Owns (b + 1) 176 2 atC W3 (.slice none 0 0) ([] : List At2)) := Owns.nil
  clear hW3 HX2 HG2 HR2 q0 q3 qf0 qf3 qlt
  have c2 := hR3.c2
  have f2 := hR3.box.free 2
  have hlt3 := hR3.box.lt
  obtain ⟨t0, t1, t2, t3, t4, t5, t6⟩ := bxc7 hx3
  have tlt := hx3.lt
  have HT3 := Lib.hid (H0.out.kept hG3 hR3)
  have HR3 := Lib.hid hR3
  have HG3 := Lib.hid hG3
  clear hx3 hR3 hG3
  have hne8 : Hid (some b ≠ (Value.slice ao L.length cap).ownBlock) := fun e => by have := (HT3.out.own.lt b e.symm).1; omega
  have hbx8 : Hid (Box ((W3.alloc (.cells (tkC ⟨⟨4, [], [], t⟩, .slice none 0 0, pos s l, 0, 0⟩).toArray 157)).drew) b [.string s, .int .i64 (pos s r : Nat), .slice ao L.length cap]) := (HR3.out.box.alloc _).drew
  have hnw : ∀ j u, (tkC ⟨⟨4, [], [], t⟩, .slice none 0 0, pos s l, 0, 0⟩)[j]? = some u → ((W3.alloc (.cells (tkC ⟨⟨4, [], [], t⟩, .slice none 0 0, pos s l, 0, 0⟩).toArray 157)).drew).cell? ⟨W3.heap.size, j, none⟩ = some u := fun j u hu => (Box.new W3 (tkC ⟨⟨4, [], [], t⟩, .slice none 0 0, pos s l, 0, 0⟩) 157 _ rfl).cell j u hu
  have hco : ∀ u ∈ tkC ⟨⟨4, [], [], t⟩, .slice none 0 0, pos s l, 0, 0⟩, u.oneCell' = true := by intro u hu; simp [tkC] at hu; rcases hu with rfl | rfl | rfl | rfl | rfl | rfl | rfl <;> rfl
  have HNW := Lib.hid hnw
  have HCO := Lib.hid hco
  have hown4 := Lib.hid ((HT3.out.own.alloc (.cells (tkC ⟨⟨4, [], [], t⟩, .slice none 0 0, pos s l, 0, 0⟩).toArray 157)).drew)
  have hbl : Hid ((L.length + 1) * 88 ≤ 140737488355328) := by show _ ≤ _; omega
  have hbs : Hid (b + 1 ≤ ((W3.alloc (.cells (tkC ⟨⟨4, [], [], t⟩, .slice none 0 0, pos s l, 0, 0⟩).toArray 157)).drew).heap.size) := by show _ ≤ _; simp; omega
  have hsz4 : Hid (((W3.alloc (.cells (tkC ⟨⟨4, [], [], t⟩, .slice none 0 0, pos s l, 0, 0⟩).toArray 157)).drew).heap.size = W3.heap.size + 1) := by show _ = _; simp
  clear hnw hco
  go_region_law (first | (refine step_append_one rfl (.tmp 110) (.tmp 112) 149 rfl (b + 1) 157 Tryz.underlying149 info_token rfl (by decide) tkC_len (.slice ao L.length cap) L (by simp [Act.eval]) hown4.out W3.heap.size ⟨⟨4, [], [], t⟩, .slice none 0 0, pos s l, 0, 0⟩ (by simp [Act.eval]) HNW.out HCO.out hbl.out (by decide) hbs.out (W3.heap.size + 1) hsz4.out ?_; intro g8 cap8 w8 hown8 hgrow8 hat8 hlt8; have hb9 := Lib.hid (hbx8.out.grown hgrow8 hne8.out); have e2 := hb9.out.cell 2 _ rfl; have ef2 := hb9.out.free 2; have el2 := hb9.out.lt; have ho9 := Lib.hid hown8; have hg9 := Lib.hid hgrow8; clear hown8 hgrow8 hat8))
  all_goals
   go_end0
   rw [HP.out]
   obtain ⟨h1, h2⟩ := HT3.out.push HG3.out hlt0 (x := ⟨⟨4, [], [], t⟩, .slice none 0 0, pos s l, 0, 0⟩) HAV.out hg9.out ho9.out
   exact ⟨rfl, _, _, h1, h2⟩
set_option maxRecDepth 100000 in
set_option maxHeartbeats 8000000 in
theorem tok_head (b : Nat) (s : S) (l : Bs) (ao : Option Addr) (cap : Nat) (L : List TkM) (m : Int) (w : World) (h : Toks w b s l (.slice ao L.length cap) L) (hs : s.size ≤ 65536) (hm : w.cell? ⟨0, 0, none⟩ = some (.int .i64 m)) (hL : L.length ≤ 1000000)
    (hno : sNote.isPrefixOf l = false) (hno2 : sData.isPrefixOf l = false) (hp0 : pos s l = 0) (hyes2 : isHead l = true) :
    Calls Tryz.prog 121 #[.pointer (some ⟨b, 0, none⟩)] w (OutT b s (pos s l) L w ((plain eHead (l.drop 5)).map fun t => ⟨6, [], [], t⟩)) := by
 have hlt0 := h.rd.box.lt
 have c1 := h.rd.c1
 have H0 := Lib.hid h
 have hs2 : s.size ≤ 1000000 := by omega
 have HM := Lib.hid hm
 have hp := pos_add h.rd.suf
 have hpb : (pos s l : Int) ≤ 65536 := by omega
 have hyes : sHead.isPrefixOf l = true := by unfold isHead at hyes2; rw [Bool.and_eq_true] at hyes2; exact hyes2.1
 have HA : Hid (∀ w, Rd w b s l (.slice ao L.length cap) → Calls Tryz.prog 153 #[.pointer (some ⟨b, 0, none⟩), .string ⟨#[60, 33, 45, 45]⟩] w (Qt (.bool false) w)) := fun w h => by
  have := has_pre b s l (.slice ao L.length cap) ⟨#[60, 33, 45, 45]⟩ w h
  rw [show (⟨#[60, 33, 45, 45]⟩ : S).data.toList.isPrefixOf l = false from hno] at this; exact this
 have HB : Hid (∀ w, Rd w b s l (.slice ao L.length cap) → Calls Tryz.prog 153 #[.pointer (some ⟨b, 0, none⟩), .string ⟨#[60, 33, 91, 67, 68, 65, 84, 65, 91]⟩] w (Qt (.bool false) w)) := fun w h => by
  have := has_pre b s l (.slice ao L.length cap) ⟨#[60, 33, 91, 67, 68, 65, 84, 65, 91]⟩ w h
  rw [show (⟨#[60, 33, 91, 67, 68, 65, 84, 65, 91]⟩ : S).data.toList.isPrefixOf l = false from hno2] at this; exact this
 have HIH : Hid (∀ w, Rd w b s l (.slice ao L.length cap) → Calls Tryz.prog 155 #[.pointer (some ⟨b, 0, none⟩)] w (Qt (.bool true) w)) := fun w h => by
  have := isHead_any b s l (.slice ao L.length cap) w h hs2
  rw [show isHead l = true from hyes2] at this; exact this
 have hlen : sHead.length ≤ l.length := (List.isPrefixOf_iff_prefix.1 hyes).length_le
 clear hyes hyes2 hno hno2
 have HU : Hid (∀ w, Rd w b s l (.slice ao L.length cap) → w.cell? ⟨0, 0, none⟩ = some (.int .i64 m) → Calls Tryz.prog 154 #[.pointer (some ⟨b, 0, none⟩), .string ⟨#[60, 63, 120, 109, 108]⟩, .string ⟨#[63, 62]⟩] w (Out (fun t => .string (bs t)) b s (.slice ao L.length cap) w (plain eHead (l.drop 5)))) := fun w h hm =>
  until_any b s ⟨#[60, 63, 120, 109, 108]⟩ ⟨#[63, 62]⟩ l (l.drop 5) (.slice ao L.length cap) m w h rfl hlen hs2 hm (by simp) (by decide)
 have e0 : (((pos s l : Nat) : Int) == 0) = true := by rw [hp0]; rfl
 clear hp0
 clear h hm
 have hR : Rd (w.alloc (.cells #[.int .i64 0, .string ⟨#[]⟩, .slice none 0 0, .string ⟨#[]⟩, .int .i64 (pos s l), .int .i64 0, .int .i64 0] 157)) b s l (.slice ao L.length cap) := H0.out.rd.below ((Below.refl _ _).alloc (Nat.le_refl _) _)
 go_enter Tryz.func121, Tryz.ntmps121
 go_wp2_with fail
 refine Calls.world ?_
 intro W hW
 have hx : Box W w.heap.size [.int .i64 0, .string ⟨#[]⟩, .slice none 0 0, .string ⟨#[]⟩, .int .i64 (pos s l), .int .i64 0, .int .i64 0] := by rw [hW]; exact Box.new w _ _ _ rfl
 have hG : w.grownBy W (some b) := by rw [hW]; exact World.grownBy_alloc _ _ _
 rw [← hW] at hR
 have hm : W.cell? ⟨0, 0, none⟩ = some (.int .i64 m) := by rw [hW, World.cell?_alloc_lt _ _ _ (by simp; omega)]; exact HM.out
 clear hW
 clear c1
 have c1 := hR.c1
 refine (HA.out W hR).mono ?_
 rintro e w1 ⟨rfl, n0, rfl⟩
 go_wp2_with fail
 refine (HB.out _ (hR.drewN _)).mono ?_
 rintro e w1 ⟨rfl, n1, rfl⟩
 go_wp2_with fail
 refine (HIH.out _ (hR.drewN _)).mono ?_
 rintro e w1 ⟨rfl, n2, rfl⟩
 have hcall := HU.out (W.drewN (n0 + n1 + n2)) (hR.drewN _) hm
 cases hpl : plain eHead (l.drop 5) with
 | bad x r =>
  rw [hpl] at hcall
  have HP := Lib.hid hpl
  clear hpl
  have HCL := Lib.hid hcall
  clear hcall hR hx
  go_wp2_with fail
  refine HCL.out.mono ?_
  intro e w2 hO
  obtain ⟨rfl, hg⟩ : Bad x s r b _ e w2 := hO
  go_wp2
  rw [HP.out]
  exact ⟨rfl, rfl, below_grown ((hG.trans (grownN _ _ _)).trans hg) (by omega)⟩
 | ok t r =>
  rw [hpl] at hcall
  have HP := Lib.hid hpl
  clear hpl
  have HCL := Lib.hid hcall
  clear hcall
  go_wp2_with fail
  refine HCL.out.mono ?_
  intro e w2 hO
  obtain ⟨rfl, hR2, hg⟩ : Goes (.string (bs t)) b s r (.slice ao L.length cap) _ e w2 := hO
  have hx2 := (hx.drewN (n0 + n1 + n2)).grownB hg (by omega)
  have hG2 := (hG.trans (grownN _ (n0 + n1 + n2) _)).trans hg
  have q0 := hx2.cell 0 _ rfl
  have q3 := hx2.cell 3 _ rfl
  have qf0 := hx2.free 0
  have qf3 := hx2.free 3
  have qlt := hx2.lt
  have HX2 := Lib.hid hx2
  have HG2 := Lib.hid hG2
  have HR2 := Lib.hid hR2
  clear hx hx2 hg hG hG2 hR hR2 hm HCL
  go_wp2
  refine wp_world ?_
  intro W3 hW3
  have hx3 : Box W3 w.heap.size [.int .i64 6, .string ⟨#[]⟩, .slice none 0 0, .string (bs t), .int .i64 (pos s l), .int .i64 0, .int .i64 0] := by rw [hW3]; exact (HX2.out.set 0 _).set 3 _
  have hR3 : Rd W3 b s r (.slice ao L.length cap) := by rw [hW3]; exact (HR2.out.setOther (by omega) _ _).setOther (by omega) _ _
  have hG3 : w.grownBy W3 (some b) := by rw [hW3]; exact grown_set (grown_set HG2.out (Nat.le_refl _) _ _) (Nat.le_refl _) _ _
  have HAV : Hid (Owns (b + 1) 176 2 atC W3 (.slice none 0 0) ([] : List At2)) := Owns.nil
  clear hW3 HX2 HG2 HR2 q0 q3 qf0 qf3 qlt
  have c2 := hR3.c2
  have f2 := hR3.box.free 2
  have hlt3 := hR3.box.lt
  obtain ⟨t0, t1, t2, t3, t4, t5, t6⟩ := bxc7 hx3
  have tlt := hx3.lt
  have HT3 := Lib.hid (H0.out.kept hG3 hR3)
  have HR3 := Lib.hid hR3
  have HG3 := Lib.hid hG3
  clear hx3 hR3 hG3
  have hne8 : Hid (some b ≠ (Value.slice ao L.length cap).ownBlock) := fun e => by have := (HT3.out.own.lt b e.symm).1; omega
  have hbx8 : Hid (Box ((W3.alloc (.cells (tkC ⟨⟨6, [], [], t⟩, .slice none 0 0, pos s l, 0, 0⟩).toArray 157)).drew) b [.string s, .int .i64 (pos s r : Nat), .slice ao L.length cap]) := (HR3.out.box.alloc _).drew
  have hnw : ∀ j u, (tkC ⟨⟨6, [], [], t⟩, .slice none 0 0, pos s l, 0, 0⟩)[j]? = some u → ((W3.alloc (.cells (tkC ⟨⟨6, [], [], t⟩, .slice none 0 0, pos s l, 0, 0⟩).toArray 157)).drew).cell? ⟨W3.heap.size, j, none⟩ = some u := fun j u hu => (Box.new W3 (tkC ⟨⟨6, [], [], t⟩, .slice none 0 0, pos s l, 0, 0⟩) 157 _ rfl).cell j u hu
  have hco : ∀ u ∈ tkC ⟨⟨6, [], [], t⟩, .slice none 0 0, pos s l, 0, 0⟩, u.oneCell' = true := by intro u hu; simp [tkC] at hu; rcases hu with rfl | rfl | rfl | rfl | rfl | rfl | rfl <;> rfl
  have HNW := Lib.hid hnw
  have HCO := Lib.hid hco
  have hown4 := Lib.hid ((HT3.out.own.alloc (.cells (tkC ⟨⟨6, [], [], t⟩, .slice none 0 0, pos s l, 0, 0⟩).toArray 157)).drew)
  have hbl : Hid ((L.length + 1) * 88 ≤ 140737488355328) := by show _ ≤ _; omega
  have hbs : Hid (b + 1 ≤ ((W3.alloc (.cells (tkC ⟨⟨6, [], [], t⟩, .slice none 0 0, pos s l, 0, 0⟩).toArray 157)).drew).heap.size) := by show _ ≤ _; simp; omega
  have hsz4 : Hid (((W3.alloc (.cells (tkC ⟨⟨6, [], [], t⟩, .slice none 0 0, pos s l, 0, 0⟩).toArray 157)).drew).heap.size = W3.heap.size + 1) := by show _ = _; simp
  clear hnw hco
  go_region_law (first | (refine step_append_one rfl (.tmp 110) (.tmp 112) 149 rfl (b + 1) 157 Tryz.underlying149 info_token rfl (by decide) tkC_len (.slice ao L.length cap) L (by simp [Act.eval]) hown4.out W3.heap.size ⟨⟨6, [], [], t⟩, .slice none 0 0, pos s l, 0, 0⟩ (by simp [Act.eval]) HNW.out HCO.out hbl.out (by decide) hbs.out (W3.heap.size + 1) hsz4.out ?_; intro g8 cap8 w8 hown8 hgrow8 hat8 hlt8; have hb9 := Lib.hid (hbx8.out.grown hgrow8 hne8.out); have e2 := hb9.out.cell 2 _ rfl; have ef2 := hb9.out.free 2; have el2 := hb9.out.lt; have ho9 := Lib.hid hown8; have hg9 := Lib.hid hgrow8; clear hown8 hgrow8 hat8))
  all_goals
   go_end0
   rw [HP.out]
   obtain ⟨h1, h2⟩ := HT3.out.push HG3.out hlt0 (x := ⟨⟨6, [], [], t⟩, .slice none 0 0, pos s l, 0, 0⟩) HAV.out hg9.out ho9.out
   exact ⟨rfl, _, _, h1, h2⟩

end Go.Proofs.YtphaeegbmfpcgaaGreatDoor

/- The walk of the builder's letters; its conditions stand in the theorem. -/
namespace Go.Proofs.YtphaeegbmfpcgaaGreatDoor
open Go Go.RowKit

variable {lo : Nat}
/-- How long a text may be that n tokens have made. -/
def tmax (n : Nat) : Nat := n * 2000000
theorem tmax_mono {n m : Nat} (h : n ≤ m) : tmax n ≤ tmax m := Nat.mul_le_mul_right _ h
theorem tmax_succ (n : Nat) : tmax (n + 1) = tmax n + 2000000 := by unfold tmax; rw [Nat.add_mul, Nat.one_mul]
theorem tmax_le {n : Nat} (h : n ≤ 1000000) : tmax n ≤ 2000000000000 := by
 have := tmax_mono h
 have h2 : tmax 1000000 = 2000000000000 := by decide
 omega
/-- The builder behind n tokens. -/
structure BOf (lo : Nat) (w : World) (B : Nat) (st : BSt) (n : Nat) (X : Nat → Prop) (ov : Value) (ps : List (Nat × Nat)) : Prop where
 core : Core 110 211 lo w B st.stack st.root X ov ps (.int .i64 st.count) (.bool st.root.isSome) (.bool st.text)
 tx : st.text = true → ∃ f fs ks t, st.stack = f :: fs ∧ f.kids = ks ++ [t] ∧ t.text.length ≤ tmax n
 kd : ∀ f ∈ st.stack, f.kids.length ≤ n
 cn : st.count ≤ n
 sn : st.stack.length ≤ n
/-- What a step of the builder returns and leaves. -/
def StepOut (lo : Nat) (w : World) (B n : Nat) : StR → Ending → World → Prop
 | .ok st => fun e w' => e = .returned (.int .i64 0) ∧ (∃ X ov ps, BOf lo w' B st n X ov ps) ∧ Below B w w'
 | .bad x => fun e w' => e = .returned (.int .i64 x) ∧ w.grownBy w' (some B) ∧ Below B w w'
theorem BOf.mono {w : World} {B : Nat} {st : BSt} {n m : Nat} {X : Nat → Prop} {ov : Value} {ps : List (Nat × Nat)} (h : BOf lo w B st n X ov ps) (hnm : n ≤ m) : BOf lo w B st m X ov ps :=
 ⟨h.core, fun ht => by obtain ⟨f, fs, ks, t, h1, h2, h3⟩ := h.tx ht; exact ⟨f, fs, ks, t, h1, h2, Nat.le_trans h3 (tmax_mono hnm)⟩, fun f hf => Nat.le_trans (h.kd f hf) hnm, Nat.le_trans h.cn hnm, Nat.le_trans h.sn hnm⟩
theorem BOf.below {w w' : World} {B : Nat} {st : BSt} {n : Nat} {X : Nat → Prop} {ov : Value} {ps : List (Nat × Nat)} (h : BOf lo w B st n X ov ps) (hb : Below w.heap.size w w') : BOf lo w' B st n X ov ps := ⟨h.core.below hb, h.tx, h.kd, h.cn, h.sn⟩
theorem BOf.drewN {w : World} {B : Nat} {st : BSt} {n : Nat} {X : Nat → Prop} {ov : Value} {ps : List (Nat × Nat)} (h : BOf lo w B st n X ov ps) (k : Nat) : BOf lo (w.drewN k) B st n X ov ps := h.below (belowN (Below.refl _ _) k)
theorem BOf.shape {w : World} {B : Nat} {st : BSt} {n : Nat} {X : Nat → Prop} {ov : Value} {ps : List (Nat × Nat)} (h : BOf lo w B st n X ov ps) : ∃ ao cap, ov = .slice ao st.stack.length cap := by
 rcases h.core.opn with ⟨rfl, rfl⟩ | ⟨g, cap, k, rfl, -⟩
 · exact ⟨none, 0, by rw [← h.core.len]; rfl⟩
 · exact ⟨_, cap, by rw [h.core.len]⟩
/-- The last thing was a text. -/
theorem BOf.more {w : World} {B : Nat} {f : Fr} {fs : List Fr} {r : Option Tr} {c n : Nat} {X : Nat → Prop} {ov : Value} {ps : List (Nat × Nat)} (s : Bs) (h : BOf lo w B ⟨f :: fs, r, c, true⟩ n X ov ps) (hs : s.length ≤ 2000000) :
    ∃ (b o : Nat) (av : Value) (g cap k : Nat) (x : Bs) (qs : List (Nat × Nat)), ps = qs.reverse ++ [(b, o)] ∧ k + 1 ≤ n ∧ x.length ≤ tmax n ∧ g < w.heap.size ∧ b < w.heap.size ∧ B ≤ g ∧ k + 1 ≤ cap ∧ cap ≤ maxLen ∧ w.cell? ⟨b, o + 2, none⟩ = some (.slice (some ⟨g, 0, none⟩) (k + 1) cap) ∧ w.cell? ⟨g, k * 4 + 3, none⟩ = some (.string (bs x)) ∧ w.frozen? ⟨g, k * 4 + 3, none⟩ = false ∧
     w.cell? ⟨b, o + 1, none⟩ = some av ∧ ∃ X' ov' ps', BOf lo (w.setCell ⟨g, k * 4 + 3, none⟩ (.string (bs (x ++ s)))) B ⟨f.more s :: fs, r, c, true⟩ (n + 1) X' ov' ps' := by
 obtain ⟨f', fs', ks, t, h1, h2, h3⟩ := h.tx rfl
 simp only [List.cons.injEq] at h1
 obtain ⟨rfl, rfl⟩ := h1
 have ht := h.core.tree
 generalize hst : f :: fs = st at ht
 cases ht with
 | empty => cases hst
 | root => cases hst
 | @inside b o f' fs' qs L av kv inn up =>
  cases hst
  have his := inn.is
  rw [h2] at his
  obtain ⟨L', y, rfl⟩ : ∃ L' y, L = L' ++ [y] := by
   rcases List.eq_nil_or_concat L with rfl | ⟨L', y, rfl⟩
   · simp at his
   · exact ⟨L', y, by simp⟩
  rw [List.map_append] at his
  obtain ⟨hk1, hk2⟩ := List.append_inj' his rfl
  obtain ⟨t', ya, yk⟩ := y
  simp only [List.map_cons, List.map_nil, List.cons.injEq, and_true] at hk2
  subst hk2
  obtain ⟨tn, ta, tk, tx⟩ := t'
  have hLn : L'.length + 1 ≤ n := by
   have := h.kd f (by simp)
   rw [h2, ← hk1] at this
   simpa using this
  obtain ⟨ao, cap, rfl⟩ := inn.own.shape
  rcases ao with _ | ⟨g, z, sp⟩
  · rcases inn.own.2 with ⟨e, -⟩ | ⟨g, cap', cur, e, -⟩ <;> simp at e
  · have hsp : sp = none ∧ z = 0 := by
     rcases inn.own.2 with ⟨e, -⟩ | ⟨g, cap', cur, e, -⟩
     · simp at e
     · simp only [Value.slice.injEq, Option.some.injEq, Addr.mk.injEq] at e; exact ⟨e.1.2.2, e.1.2.1⟩
    obtain ⟨rfl, rfl⟩ := hsp
    have hlen : (L' ++ [((.mk tn ta tk tx : Tr), ya, yk)]).length = L'.length + 1 := by simp
    rw [hlen] at inn
    obtain ⟨-, hbg, hrow, -, hcap, hm⟩ := inn.own.row
    have hge := up.ge
    have hcell : w.cell? ⟨g, L'.length * 4 + 3, none⟩ = some (.string (bs tx)) := by
     have := inn.own.cells0 (L'.length * 4 + 3) _ (flat_at L' _ (j := 3) rfl)
     rwa [Nat.zero_add] at this
    refine ⟨b, o, av, g, cap, L'.length, tx, qs, rfl, hLn, h3, hrow.lt, h.core.xsize b inn.xb, by omega, by simpa using hcap, hm, inn.cells 2 _ rfl, hcell, hrow.free _, inn.cells 1 _ rfl, X, ov, _, Core.more node_ptr h.core inn up, fun _ => ⟨_, _, L'.map (·.1), .mk tn ta tk (tx ++ s), rfl, ?_, ?_⟩, fun f' hf' => ?_, by have := h.cn; simp at this ⊢; omega, by have := h.sn; simp at this ⊢; omega⟩
    · simp only [Fr.more, h2, ← hk1]
      exact addText_snoc s _ tn ta tk tx
    · have h3' : tx.length ≤ tmax n := h3
      show (tx ++ s).length ≤ _
      rw [List.length_append, tmax_succ]; omega
    · rcases List.mem_cons.1 hf' with rfl | hf'
      · simp only [Fr.more, h2, ← hk1, addText_snoc]
        simp; omega
      · have := h.kd f' (by simp [hf']); omega

end Go.Proofs.YtphaeegbmfpcgaaGreatDoor

/- The walk of the builder's letters; its conditions stand in the theorem. -/

namespace Go.Proofs.YtphaeegbmfpcgaaGreatDoor
open Go Go.RowKit

variable {lo : Nat}
theorem info_node : (Tryz.prog.info? 110).map (fun i => (i.zero, i.size, i.bytes)) = some (some (.agg #[.string ⟨#[]⟩, .slice none 0 0, .slice none 0 0, .string ⟨#[]⟩]), 4, 80) := by kernel_rfl
def zeroNode : TrV := ((.mk [] [] [] [] : Tr), .slice none 0 0, .slice none 0 0)
theorem zeroNode_one : ∀ u ∈ trC zeroNode, u.oneCell' = true := by
 intro u hu
 simp only [trC, nodeC, zeroNode, Tr.name, Tr.text, List.mem_cons, List.not_mem_nil, or_false] at hu
 rcases hu with rfl | rfl | rfl | rfl <;> rfl
theorem setCell_comm (w : World) (a b : Addr) (u v : Value) (h : a.block ≠ b.block) : (w.setCell a u).setCell b v = (w.setCell b v).setCell a u := by
 unfold World.setCell
 congr 1
 apply Array.ext_getElem?
 intro i
 simp only [Array.getElem?_modify]
 by_cases h1 : a.block = i
 · have h2 : ¬ b.block = i := fun e => h (h1.trans e.symm)
   simp [h1, h2]
 · by_cases h2 : b.block = i
   · simp [h1, h2]
   · simp [h1, h2]
theorem Core.data {w : World} {B : Nat} {f : Fr} {fs : List Fr} {r : Option Tr} {X : Nat → Prop} {ov : Value} {ps : List (Nat × Nat)} {c d t : Value} (h : Core 110 211 lo w B (f :: fs) r X ov ps c d t) :
    ∃ (b o : Nat) (L : List TrV) (av : Value) (ao : Option Addr) (cap : Nat) (qs : List (Nat × Nat)), r = none ∧ ps = qs.reverse ++ [(b, o)] ∧ Inner 110 X w b o f L av (.slice ao L.length cap) ∧ Up 110 B X w b o fs qs ∧ b < w.heap.size ∧ B ≤ b ∧ (b = B → o = 0) ∧
     w.cell? ⟨b, o, none⟩ = some (.string (bs f.name)) ∧ w.cell? ⟨b, o + 2, none⟩ = some (.slice ao L.length cap) ∧ w.frozen? ⟨b, o + 2, none⟩ = false := by
 have ht := h.tree
 generalize hst : f :: fs = st at ht
 cases ht with
 | empty => cases hst
 | root => cases hst
 | @inside b o f' fs' qs L av kv inn up =>
  cases hst
  obtain ⟨ao, cap, rfl⟩ := inn.own.shape
  exact ⟨b, o, L, av, ao, cap, qs, rfl, rfl, inn, up, h.xsize b inn.xb, up.ge, fun e => by rcases up.place with ⟨-, h0, -⟩ | ⟨h1, -⟩ <;> omega, inn.cells 0 _ rfl, inn.cells 2 _ rfl, h.free b inn.xb (Nat.le_trans h.loB up.ge) _⟩
/-- The node that has been appended is stored. -/
theorem Owns.nodeSt {base E g cap : Nat} {w : World} {L : List TrV} (h : Owns base E 4 trC w (.slice (some ⟨g, 0, none⟩) (L.length + 1) cap) (L ++ [zeroNode])) (n : Bs) (ats : List At2) (x : Bs) (av : Value) :
    Owns base E 4 trC ((((w.setCell ⟨g, L.length * 4, none⟩ (.string (bs n))).setCell ⟨g, L.length * 4 + 1, none⟩ av).setCell ⟨g, L.length * 4 + 2, none⟩ (.slice none 0 0)).setCell ⟨g, L.length * 4 + 3, none⟩ (.string (bs x))) (.slice (some ⟨g, 0, none⟩) (L.length + 1) cap) (L ++ [((.mk n ats [] x : Tr), av, .slice none 0 0)]) := by
 have hl : ∀ y : TrV, (L ++ [y])[L.length]? = some y := fun y => by simp
 have hs : ∀ y z : TrV, (L ++ [y]).set L.length z = L ++ [z] := fun y z => by simp
 obtain ⟨g1, e1, -, -, -, -, -, s1⟩ := own_store (j := 0) trC_len h (hl _) (by decide)
 cases e1
 have h1 := s1 (.string (bs n)) ((.mk n [] [] [] : Tr), .slice none 0 0, .slice none 0 0) rfl
 rw [hs, Nat.add_zero] at h1
 obtain ⟨g1, e1, -, -, -, -, -, s1⟩ := own_store (j := 1) trC_len h1 (hl _) (by decide)
 cases e1
 have h2 := s1 av ((.mk n ats [] [] : Tr), av, .slice none 0 0) rfl
 rw [hs] at h2
 obtain ⟨g1, e1, -, -, -, -, -, s1⟩ := own_store (j := 2) trC_len h2 (hl _) (by decide)
 cases e1
 have h3 := s1 (.slice none 0 0) ((.mk n ats [] [] : Tr), av, .slice none 0 0) rfl
 rw [hs] at h3
 obtain ⟨g1, e1, -, -, -, -, -, s1⟩ := own_store (j := 3) trC_len h3 (hl _) (by decide)
 cases e1
 have h4 := s1 (.string (bs x)) ((.mk n ats [] x : Tr), av, .slice none 0 0) rfl
 rw [hs] at h4
 exact h4
theorem Owns.nodeCells {base E g cap : Nat} {w : World} {L : List TrV} (h : Owns base E 4 trC w (.slice (some ⟨g, 0, none⟩) (L.length + 1) cap) (L ++ [zeroNode])) (j : Nat) (hj : j < 4) :
    w.frozen? ⟨g, L.length * 4 + j, none⟩ = false ∧ ∃ u, w.cell? ⟨g, L.length * 4 + j, none⟩ = some u := by
 obtain ⟨g1, e1, -, -, h1, h2, -⟩ := own_store (j := j) trC_len h (by simp : (L ++ [zeroNode])[L.length]? = some zeroNode) hj
 cases e1
 exact ⟨h2, _, by rw [h1]; exact List.getElem?_eq_getElem (by rw [trC_len]; exact hj)⟩
theorem grown_set4 {w w1 : World} {g m : Nat} {row : Option Nat} (h : w.grownBy w1 row) (hg : row = some g ∨ g = w.heap.size) (u0 u1 u2 u3 : Value) :
    w.grownBy ((((w1.setCell ⟨g, m, none⟩ u0).setCell ⟨g, m + 1, none⟩ u1).setCell ⟨g, m + 2, none⟩ u2).setCell ⟨g, m + 3, none⟩ u3) row := by
 have hs : w1.grownBy ((((w1.setCell ⟨g, m, none⟩ u0).setCell ⟨g, m + 1, none⟩ u1).setCell ⟨g, m + 2, none⟩ u2).setCell ⟨g, m + 3, none⟩ u3) (some g) := (((setCell_grown _ _ _ _).trans (setCell_grown _ _ _ _)).trans (setCell_grown _ _ _ _)).trans (setCell_grown _ _ _ _)
 refine ⟨hs.os.trans h.os, hs.tape.trans h.tape, hs.output.trans h.output, Nat.le_trans h.size hs.size, fun k hk hne => (hs.block k (Nat.lt_of_lt_of_le hk h.size) (fun e => ?_)).trans (h.block k hk hne)⟩
 cases e
 rcases hg with e | e
 · exact hne e.symm
 · omega
set_option maxRecDepth 100000 in
set_option maxHeartbeats 8000000 in
theorem lettersB_out (w : World) (B n : Nat) (r : Option Tr) (c : Nat) (tx : Bool) (X : Nat → Prop) (ov : Value) (ps : List (Nat × Nat)) (s : Bs) (h : BOf lo w B ⟨[], r, c, tx⟩ n X ov ps) (hs : s.length ≤ 2000000) :
    Calls Tryz.prog 123 #[.pointer (some ⟨B, 0, none⟩), .string (bs s)] w (StepOut lo w B (n + 1) (lettersB ⟨[], r, c, tx⟩ s)) := by
 have hlt := h.core.lt
 have c4 := h.core.c4
 obtain ⟨ao, cap, hov⟩ := h.shape
 rw [hov] at c4
 simp only [List.length_nil] at c4
 have H := Lib.hid h
 clear h hov
 go_enter Tryz.func123, Tryz.ntmps123
 go_wp2_with fail
 refine (trim_any (bs s) w (by rw [bs_size]; omega)).mono ?_
 rintro e w' ⟨x, rfl, hx, rfl⟩
 rw [bs_data] at hx
 have he : x.toList.isEmpty = (trimB s).isEmpty := by
  rw [empty_data, ← size_data, hx]
  cases trimB s <;> simp
 have HX := Lib.hid hx
 clear hx
 cases ht : (trimB s).isEmpty with
 | true =>
  rw [ht] at he
  have HT := Lib.hid ht
  clear ht
  go_wp2
  go_ret
  have : lettersB ⟨[], r, c, tx⟩ s = .ok ⟨[], r, c, tx⟩ := by simp only [lettersB, HT.out, if_true]
  rw [this]
  exact ⟨rfl, ⟨X, ov, ps, H.out.mono (Nat.le_succ n)⟩, Below.refl _ _⟩
 | false =>
  rw [ht] at he
  have HT := Lib.hid ht
  clear ht
  go_wp2
  go_ret
  have : lettersB ⟨[], r, c, tx⟩ s = .bad 16 := by simp only [lettersB, HT.out]; rfl
  rw [this]
  exact ⟨rfl, World.grownBy.refl _ _, Below.refl _ _⟩

end Go.Proofs.YtphaeegbmfpcgaaGreatDoor

/- The walk of the builder's letters inside of an element; its conditions stand in the theorem. -/

namespace Go.Proofs.YtphaeegbmfpcgaaGreatDoor
open Go Go.RowKit

variable {lo : Nat}
set_option maxRecDepth 100000 in
set_option maxHeartbeats 8000000 in
theorem lettersB_none (w : World) (B n : Nat) (f : Fr) (fs : List Fr) (r : Option Tr) (c : Nat) (tx : Bool) (X : Nat → Prop) (ov : Value) (ps : List (Nat × Nat)) (h : BOf lo w B ⟨f :: fs, r, c, tx⟩ n X ov ps) :
    Calls Tryz.prog 123 #[.pointer (some ⟨B, 0, none⟩), .string (bs [])] w (StepOut lo w B (n + 1) (lettersB ⟨f :: fs, r, c, tx⟩ [])) := by
 have hlt := h.core.lt
 have c4 := h.core.c4
 obtain ⟨ao, cap, hov⟩ := h.shape
 rw [hov] at c4
 simp only [List.length_cons] at c4
 obtain ⟨b, o, L, av, ao2, cap2, qs, -, hps, -⟩ := h.core.data
 have HT := Lib.hid (top_any (by have := h.core; rw [hps] at this; exact this))
 have hn1 : ((fs.length + 1 : Nat) : Int) ≠ 0 := by omega
 have H := Lib.hid h
 clear h hov hps
 have he : (bs [] : S).toList.isEmpty = true := by rw [empty_data]; rfl
 generalize (bs [] : S) = e0 at *
 go_enter Tryz.func123, Tryz.ntmps123
 go_wp2_with fail
 refine HT.out.mono ?_
 rintro e w' ⟨rfl, k, rfl⟩
 go_wp2
 go_ret
 exact ⟨rfl, ⟨X, ov, ps, (H.out.drewN k).mono (Nat.le_succ n)⟩, belowN (Below.refl _ _) k⟩
set_option maxRecDepth 100000 in
set_option maxHeartbeats 8000000 in
theorem lettersB_text (w : World) (B n : Nat) (f : Fr) (fs : List Fr) (r : Option Tr) (c : Nat) (X : Nat → Prop) (ov : Value) (ps : List (Nat × Nat)) (s : Bs) (h : BOf lo w B ⟨f :: fs, r, c, true⟩ n X ov ps) (hs0 : s ≠ []) (hs : s.length ≤ 2000000) (hn : n ≤ 1000000) :
    Calls Tryz.prog 123 #[.pointer (some ⟨B, 0, none⟩), .string (bs s)] w (StepOut lo w B (n + 1) (lettersB ⟨f :: fs, r, c, true⟩ s)) := by
 have hlt := h.core.lt
 have c4 := h.core.c4
 obtain ⟨ao, cap, hov⟩ := h.shape
 rw [hov] at c4
 simp only [List.length_cons] at c4
 obtain ⟨b, o, L, av, ao2, cap2, qs, -, hps, -⟩ := h.core.data
 have HT := Lib.hid (top_any (by have := h.core; rw [hps] at this; exact this))
 have hn1 : ((fs.length + 1 : Nat) : Int) ≠ 0 := by omega
 have H := Lib.hid h
 clear h hov
 have he : (bs s : S).toList.isEmpty = false := by rw [empty_data, bs_size]; simpa using hs0
 have hl : lettersB ⟨f :: fs, r, c, true⟩ s = .ok ⟨f.more s :: fs, r, c, true⟩ := by
  cases s with
  | nil => exact absurd rfl hs0
  | cons x s => simp [lettersB]
 rw [hl]
 have HSZ : Hid ((bs s : S).size = s.length) := bs_size s
 obtain ⟨S1, hS1⟩ : ∃ S1 : S, S1 = bs s := ⟨_, rfl⟩
 have HS1 := Lib.hid hS1
 rw [← hS1] at he ⊢
 clear hS1 hl
 go_enter Tryz.func123, Tryz.ntmps123
 go_wp2_with fail
 refine HT.out.mono ?_
 rintro e w' ⟨rfl, k, rfl⟩
 obtain ⟨b', o', av', g, cap', z, x, qs', hps', hz, hx, hg, hb, hBg, hzc, hm, q2, q3, f3, q1, X', ov', ps', HB⟩ := ((H.out.drewN k).drewN 1).more s hs
 obtain ⟨rfl, rfl⟩ : b = b' ∧ o = o' := by
  rw [hps] at hps'
  have := (List.append_inj' hps' rfl).2
  simpa using this
 have HBB := Lib.hid HB
 have c7 := (H.out.drewN k).core.c7
 obtain ⟨T1, hT1⟩ : ∃ T1 : S, T1 = bs x := ⟨_, rfl⟩
 have hsum : ¬ 9223372036854775807 < T1.size + S1.size := by
  rw [hT1, bs_size, HS1.out, HSZ.out]
  have := tmax_le hn
  omega
 have hT1' : T1 ++ S1 = bs (x ++ s) := by rw [hT1, HS1.out, bs_append]
 have HTT := Lib.hid hT1'
 rw [← hT1] at q3
 clear hT1 HB hT1' hps hps'
 have e2 : (w.drewN k).cell? ⟨b, o + 2, none⟩ = some (.slice (some ⟨g, 0, none⟩) (z + 1) cap') := q2
 have e3 : (w.drewN k).cell? ⟨g, z * 4 + 3, none⟩ = some (.string T1) := q3
 have ef : (w.drewN k).frozen? ⟨g, z * 4 + 3, none⟩ = false := f3
 have eg : g < (w.drewN k).heap.size := hg
 have eb : b < (w.drewN k).heap.size := hb
 have hz1 : IntKind.i64.wrap (z : Int) = z := IntWalk.i64_in _ (by omega)
 have hz2 : (z : Int) < (z : Int) + 1 := by omega
 have hz3 : (0 : Int) ≤ z := by omega
 clear q1 q2 q3 f3 hg hb
 have hBB : Below B w (w.drewN k) := belowN (Below.refl _ _) k
 have HBW := Lib.hid hBB
 have HB2 : Hid (∀ W, W = w.drewN k → BOf lo (W.drew.setCell ⟨g, z * 4 + 3, none⟩ (.string (T1 ++ S1))) B ⟨f.more s :: fs, r, c, true⟩ (n + 1) X' ov' ps') := by
  intro W hW
  rw [hW, HTT.out]
  exact HBB.out
 have HB3 := HB2.out (w.drewN k) rfl
 have HB4 := Lib.hid HB3
 have hltk : B < (w.drewN k).heap.size := hlt
 clear hBB HBB HB2 HB3 hlt HT c4
 generalize w.drewN k = W at *
 go_wp2
 go_still_tail 14, (by kernel_rfl)
 change wpList _ _ _ _ _ W.drew
 go_wp2
 go_ret
 exact ⟨rfl, ⟨X', ov', ps', HB4.out⟩, below_set (belowN HBW.out 1) g _ _ hBg⟩

end Go.Proofs.YtphaeegbmfpcgaaGreatDoor
