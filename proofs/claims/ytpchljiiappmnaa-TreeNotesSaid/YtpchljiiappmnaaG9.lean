/- The walk of the program's reader's token where it reads up to an end, or letters; the conditions stand in the theorems. -/
import Derived.Test.YtpchljiiappmnaaG5
import Derived.Deep.AppendLies
import Derived.Deep.RegionLaw
import Derived.Test.YtpchljiiappmnaaG7
namespace Go.Proofs.Ytpchljiiappmnaa
open Go Go.RowKit

/-- A token in memory: with its attributes' slice and its place. -/
structure TkM where
  t : Tk
  av : Value
  off : Int
  line : Int
  col : Int
def tkC (x : TkM) : List Value := [.int .i64 x.t.kind, .string (bs x.t.name), x.av, .string (bs x.t.text), .int .i64 x.off, .int .i64 x.line, .int .i64 x.col]
theorem tkC_len (x : TkM) : (tkC x).length = 7 := rfl
theorem info_token : (Try.prog.info? 34).map (fun i => (i.zero, i.size, i.bytes)) = some (some (.agg #[.int .i64 0, .string ⟨#[]⟩, .slice none 0 0, .string ⟨#[]⟩, .int .i64 0, .int .i64 0, .int .i64 0]), 7, 88) := by kernel_rfl

/-- The reader with what it has made so far. -/
structure Toks (w : World) (b : Nat) (s : S) (l : Bs) (ov : Value) (L : List TkM) : Prop where
  rd : Rd w b s l ov
  own : Owns (b + 1) 34 7 tkC w ov L
  att : ∀ x ∈ L, Owns (b + 1) 43 2 atC w x.av x.t.attrs

def OutT (b : Nat) (s : S) (p : Nat) (L : List TkM) (w : World) : Res Tk → Ending → World → Prop
  | .ok t r => fun e w' => e = .returned (.tuple #[]) ∧ ∃ ov av, Toks w' b s r ov (L ++ [⟨t, av, p, 0, 0⟩]) ∧ Below b w w'
  | .bad e r => fun x w' => x = .panicked [{ v := faultV e (pos s r), recovered := false }] ∧ Below b w w'

theorem Owns.form {α : Type} {base : Nat} {E : TypeId} {n : Nat} {C : α → List Value} {w : World} {v : Value} {l : List α} (h : Owns base E n C w v l) : ∃ ao cap, v = .slice ao l.length cap := h.shape

theorem below_grown {b : Nat} {w w' : World} (h : w.grownBy w' (some b)) (hb : b ≤ w.heap.size) : Below b w w' := ⟨h.os, h.tape, h.output, h.size, fun k hk => h.block k (by omega) (by simp; omega)⟩

theorem Toks.kept {w w' : World} {b : Nat} {s : S} {l r : Bs} {ov : Value} {L : List TkM} (h : Toks w b s l ov L) (hg : w.grownBy w' (some b)) (hr : Rd w' b s r ov) : Toks w' b s r ov L :=
  ⟨hr, h.own.keptR hg (by omega), fun x hx => (h.att x hx).keptR hg (by omega)⟩

/-- append of one element to an owned slice, as a step of a region that draws. -/
theorem step_append_one {P : Program} {ops : Array Oper} {o : Oper} {a : Act} {w : World} {K : Act → World → Prop} {Q : Exit → Act → World → Prop} {E : Prop} {α : Type} {C : α → List Value} (hgd : o.guard = none) (s x : Operand) (t : TypeId)
    (ho : o.op = .call { callee := .builtin .append, args := #[s, x], argTypes := #[t, t] })
    (base : Nat) (e : TypeId) {z : Value} {size bytes : Nat} (ht : P.underlying t = some (.slice e)) (hinfo : (P.info? e).map (fun i => (i.zero, i.size, i.bytes)) = some (some z, size, bytes)) (hzs : z.cells.size = size) (hsz : 0 < size) (hC : ∀ y, (C y).length = size)
    (v : Value) (l : List α) (hs : a.eval s = v) (hown : Owns base e size C w v l) (H : Nat) (y : α) (hx : a.eval x = .slice (some ⟨H, 0, none⟩) 1 1) (hnews : ∀ j u, (C y)[j]? = some u → w.cell? ⟨H, j, none⟩ = some u) (h1 : ∀ u ∈ C y, u.oneCell' = true)
    (hbytes : (l.length + 1) * bytes ≤ 140737488355328) (hb0 : 0 < bytes) (hbase : base ≤ w.heap.size) (N : Nat) (hN : w.heap.size = N)
    (h : ∀ g cap w', Owns base e size C w' (.slice (some ⟨g, 0, none⟩) (l.length + 1) cap) (l ++ [y]) → w.grownBy w' v.ownBlock → (v.ownBlock = some g ∨ g = N) → g < w'.heap.size → K (a.put o.dst (.slice (some ⟨g, 0, none⟩) (l.length + 1) cap)) w') :
    if Region.wanted o (yielded ops a.tmps) = true then Oper.wp P o a w K Q else E := by
  have hlen63 : l.length + 1 ≤ maxLen := by
    have : l.length + 1 ≤ (l.length + 1) * bytes := Nat.le_mul_of_pos_right _ hb0
    unfold maxLen; omega
  obtain ⟨i, hi, hz, hsize, hby⟩ := info_parts hinfo
  refine step_append_lies w hgd s x t ho base e i z size bytes ht hi hz hsize hby hzs hsz v l.length (l.flatMap C) hs hown ⟨H, 0, none⟩ 1 1 (C y) hx (by rw [hC]; simp) (fun j u hu => by rw [Addr.add_lit, Nat.zero_add]; exact hnews j u hu) h1 (by decide) hlen63 hbytes hbase N hN ?_
  intro g cap w' h2 h3 h4 h5
  refine h g cap w' ?_ h3 h4 h5
  unfold Owns
  rw [List.length_append, List.flatMap_append]
  simpa using h2

theorem Owns.drew {α : Type} {base : Nat} {E : TypeId} {n : Nat} {C : α → List Value} {w : World} {v : Value} {l : List α} (h : Owns base E n C w v l) : Owns base E n C w.drew v l := h

theorem Box.drew {w : World} {b : Nat} {cs : List Value} (h : Box w b cs) : Box w.drew b cs := ⟨h.lt, h.cell, h.free⟩

theorem own_types {α β : Type} {b1 b2 E1 E2 n1 n2 : Nat} {C1 : α → List Value} {C2 : β → List Value} {w : World} {v1 v2 : Value} {l1 : List α} {l2 : List β} (h1 : Owns b1 E1 n1 C1 w v1 l1) (h2 : Owns b2 E2 n2 C2 w v2 l2) (hE : E1 ≠ E2) : v1.ownBlock = none ∨ v1.ownBlock ≠ v2.ownBlock := by
  rcases h1.2 with ⟨rfl, -⟩ | ⟨g, cap, cur, rfl, -, hg, -⟩
  · exact .inl rfl
  · right
    rcases h2.2 with ⟨rfl, -⟩ | ⟨g2, cap2, cur2, rfl, -, hg2, -⟩
    · simp [Value.ownBlock]
    · intro e
      simp only [Value.ownBlock, Option.some.injEq] at e
      subst e
      rw [hg] at hg2
      simp only [Option.some.injEq, Obj.cells.injEq] at hg2
      exact hE hg2.2.1

theorem Toks.push {w W3 w8 : World} {b : Nat} {s : S} {r : Bs} {ov v : Value} {L : List TkM} {x : TkM} {o : Obj} (hT : Toks W3 b s r ov L) (hG : w.grownBy W3 (some b)) (hlt : b < w.heap.size) (hav : Owns (b + 1) 43 2 atC W3 x.av x.t.attrs)
    (hg : ((W3.alloc o).drew).grownBy w8 ov.ownBlock) (hown : Owns (b + 1) 34 7 tkC w8 v (L ++ [x])) :
    Toks (w8.setCell ⟨b, 2, none⟩ v) b s r v (L ++ [x]) ∧ Below b w (w8.setCell ⟨b, 2, none⟩ v) := by
  have hW := hG.size
  have hne : some b ≠ ov.ownBlock := fun e => by have := (hT.own.lt b e.symm).1; omega
  have hbx : Box w8 b [.string s, .int .i64 (pos s r : Nat), ov] := (hT.rd.box.alloc o).drew.grown hg hne
  refine ⟨⟨⟨hbx.set 2 v, hT.rd.suf⟩, hown.keptR (setCell_grown w8 b 2 v) (by omega), fun y hy => ?_⟩, ?_⟩
  · have h1 : Owns (b + 1) 43 2 atC W3 y.av y.t.attrs := by
      rcases List.mem_append.1 hy with h | h
      · exact hT.att y h
      · simp at h; subst h; exact hav
    have h2 : Owns (b + 1) 43 2 atC ((W3.alloc o).drew) y.av y.t.attrs := (h1.alloc o).drew
    exact (h2.kept hg (own_types h1 hT.own (by decide))).keptR (setCell_grown w8 b 2 v) (by omega)
  · refine ⟨hg.os.trans hG.os, hg.tape.trans hG.tape, hg.output.trans hG.output, ?_, fun k hk => ?_⟩
    · have := hg.size
      simp [World.setCell] at this ⊢; omega
    · have h1 : (w8.setCell ⟨b, 2, none⟩ v).heap[k]? = w8.heap[k]? := Below.heap_setCell w8 ⟨b, 2, none⟩ v k (by simp; omega)
      have h2 : w8.heap[k]? = ((W3.alloc o).drew).heap[k]? := hg.block k (by simp; omega) (fun e => by have := (hT.own.lt k e.symm).1; omega)
      have h3 : ((W3.alloc o).drew).heap[k]? = W3.heap[k]? := Below.heap_alloc W3 o k (by omega)
      rw [h1, h2, h3]
      exact hG.block k (by omega) (by simp; omega)

theorem grown_set {w x : World} {row : Option Nat} (h : w.grownBy x row) {k : Nat} (hk : w.heap.size ≤ k) (j : Nat) (v : Value) : w.grownBy (x.setCell ⟨k, j, none⟩ v) row :=
  ⟨h.os, h.tape, h.output, by simpa [World.setCell] using h.size, fun i hi hne => (Below.heap_setCell x ⟨k, j, none⟩ v i (by simp; omega)).trans (h.block i hi hne)⟩

theorem Rd.setOther {w : World} {b : Nat} {s : S} {l : Bs} {ov : Value} (h : Rd w b s l ov) {k : Nat} (hk : k ≠ b) (j : Nat) (v : Value) : Rd (w.setCell ⟨k, j, none⟩ v) b s l ov :=
  ⟨h.box.grownB (setCell_grown w k j v) (Ne.symm hk), h.suf⟩

set_option maxRecDepth 100000 in
set_option maxHeartbeats 8000000 in
theorem tok_note (b : Nat) (s : S) (l : Bs) (ao : Option Addr) (cap : Nat) (L : List TkM) (m : Int) (w : World) (h : Toks w b s l (.slice ao L.length cap) L) (hs : s.size ≤ 65536) (hm : w.cell? ⟨0, 0, none⟩ = some (.int .i64 m)) (hL : L.length ≤ 1000000)
    (hyes : sNote.isPrefixOf l = true) :
    Calls Try.prog 54 #[.pointer (some ⟨b, 0, none⟩)] w (OutT b s (pos s l) L w ((plain eNote (l.drop 4)).map fun t => ⟨5, [], [], t⟩)) := by
  have hlt0 := h.rd.box.lt
  have c1 := h.rd.c1
  have H0 := Lib.hid h
  have hs2 : s.size ≤ 1000000 := by omega
  have HM := Lib.hid hm
  have hp := pos_add h.rd.suf
  have hpb : (pos s l : Int) ≤ 65536 := by omega
  have HA : Hid (∀ w, Rd w b s l (.slice ao L.length cap) → Calls Try.prog 78 #[.pointer (some ⟨b, 0, none⟩), .string ⟨#[60, 33, 45, 45]⟩] w (Qt (.bool true) w)) := fun w h => by
    have := has_pre b s l (.slice ao L.length cap) ⟨#[60, 33, 45, 45]⟩ w h
    rw [show (⟨#[60, 33, 45, 45]⟩ : S).data.toList.isPrefixOf l = true from hyes] at this; exact this
  have hlen : sNote.length ≤ l.length := (List.isPrefixOf_iff_prefix.1 hyes).length_le
  clear hyes
  have HU : Hid (∀ w, Rd w b s l (.slice ao L.length cap) → w.cell? ⟨0, 0, none⟩ = some (.int .i64 m) → Calls Try.prog 79 #[.pointer (some ⟨b, 0, none⟩), .string ⟨#[60, 33, 45, 45]⟩, .string ⟨#[45, 45, 62]⟩] w (Out (fun t => .string (bs t)) b s (.slice ao L.length cap) w (plain eNote (l.drop 4)))) := fun w h hm =>
    until_any b s ⟨#[60, 33, 45, 45]⟩ ⟨#[45, 45, 62]⟩ l (l.drop 4) (.slice ao L.length cap) m w h rfl hlen hs2 hm (by simp) (by decide)
  clear h hm
  have hR : Rd (w.alloc (.cells #[.int .i64 0, .string ⟨#[]⟩, .slice none 0 0, .string ⟨#[]⟩, .int .i64 (pos s l), .int .i64 0, .int .i64 0] 34)) b s l (.slice ao L.length cap) := H0.out.rd.below ((Below.refl _ _).alloc (Nat.le_refl _) _)
  go_enter Try.func54, Try.ntmps54
  go_wp2_with fail
  refine Calls.world ?_
  intro W hW
  have hx : Box W w.heap.size [.int .i64 0, .string ⟨#[]⟩, .slice none 0 0, .string ⟨#[]⟩, .int .i64 (pos s l), .int .i64 0, .int .i64 0] := by rw [hW]; exact Box.new w _ _ _ rfl
  have hG : w.grownBy W (some b) := by rw [hW]; exact World.grownBy_alloc _ _ _
  rw [← hW] at hR
  have hm : W.cell? ⟨0, 0, none⟩ = some (.int .i64 m) := by rw [hW, World.cell?_alloc_lt _ _ _ (by simp; omega)]; exact HM.out
  clear hW
  clear c1
  refine (HA.out W hR).mono ?_
  rintro e w1 ⟨rfl, n0, rfl⟩
  have hcall := HU.out (W.drewN n0) (hR.drewN _) hm
  cases hpl : plain eNote (l.drop 4) with
  | bad x r =>
    rw [hpl] at hcall
    have HP := Lib.hid hpl
    clear hpl
    have HCL := Lib.hid hcall
    clear hcall hR hx
    go_wp2_with fail
    refine HCL.out.mono ?_
    intro e w2 hO
    obtain ⟨rfl, hg⟩ : Bad x s r b _ e w2 := hO
    go_wp2
    rw [HP.out]
    exact ⟨rfl, rfl, below_grown ((hG.trans (grownN _ _ _)).trans hg) (by omega)⟩
  | ok t r =>
    rw [hpl] at hcall
    have HP := Lib.hid hpl
    clear hpl
    have HCL := Lib.hid hcall
    clear hcall
    go_wp2_with fail
    refine HCL.out.mono ?_
    intro e w2 hO
    obtain ⟨rfl, hR2, hg⟩ : Goes (.string (bs t)) b s r (.slice ao L.length cap) _ e w2 := hO
    have hx2 := (hx.drewN n0).grownB hg (by omega)
    have hG2 := (hG.trans (grownN _ n0 _)).trans hg
    have q0 := hx2.cell 0 _ rfl
    have q3 := hx2.cell 3 _ rfl
    have qf0 := hx2.free 0
    have qf3 := hx2.free 3
    have qlt := hx2.lt
    have HX2 := Lib.hid hx2
    have HG2 := Lib.hid hG2
    have HR2 := Lib.hid hR2
    clear hx hx2 hg hG hG2 hR hR2 hm HCL
    go_wp2
    refine wp_world ?_
    intro W3 hW3
    have hx3 : Box W3 w.heap.size [.int .i64 5, .string ⟨#[]⟩, .slice none 0 0, .string (bs t), .int .i64 (pos s l), .int .i64 0, .int .i64 0] := by rw [hW3]; exact (HX2.out.set 0 _).set 3 _
    have hR3 : Rd W3 b s r (.slice ao L.length cap) := by rw [hW3]; exact (HR2.out.setOther (by omega) _ _).setOther (by omega) _ _
    have hG3 : w.grownBy W3 (some b) := by rw [hW3]; exact grown_set (grown_set HG2.out (Nat.le_refl _) _ _) (Nat.le_refl _) _ _
    have HAV : Hid (Owns (b + 1) 43 2 atC W3 (.slice none 0 0) ([] : List At2)) := Owns.nil
    clear hW3 HX2 HG2 HR2 q0 q3 qf0 qf3 qlt
    have c2 := hR3.c2
    have f2 := hR3.box.free 2
    have hlt3 := hR3.box.lt
    have t0 := hx3.cell 0 _ rfl
    have t1 := hx3.cell 1 _ rfl
    have t2 := hx3.cell 2 _ rfl
    have t3 := hx3.cell 3 _ rfl
    have t4 := hx3.cell 4 _ rfl
    have t5 := hx3.cell 5 _ rfl
    have t6 := hx3.cell 6 _ rfl
    have tlt := hx3.lt
    have HT3 := Lib.hid (H0.out.kept hG3 hR3)
    have HR3 := Lib.hid hR3
    have HG3 := Lib.hid hG3
    clear hx3 hR3 hG3
    have hne8 : Hid (some b ≠ (Value.slice ao L.length cap).ownBlock) := fun e => by have := (HT3.out.own.lt b e.symm).1; omega
    have hbx8 : Hid (Box ((W3.alloc (.cells (tkC ⟨⟨5, [], [], t⟩, .slice none 0 0, pos s l, 0, 0⟩).toArray 34)).drew) b [.string s, .int .i64 (pos s r : Nat), .slice ao L.length cap]) := (HR3.out.box.alloc _).drew
    have hnw : ∀ j u, (tkC ⟨⟨5, [], [], t⟩, .slice none 0 0, pos s l, 0, 0⟩)[j]? = some u → ((W3.alloc (.cells (tkC ⟨⟨5, [], [], t⟩, .slice none 0 0, pos s l, 0, 0⟩).toArray 34)).drew).cell? ⟨W3.heap.size, j, none⟩ = some u := fun j u hu => (Box.new W3 (tkC ⟨⟨5, [], [], t⟩, .slice none 0 0, pos s l, 0, 0⟩) 34 _ rfl).cell j u hu
    have hco : ∀ u ∈ tkC ⟨⟨5, [], [], t⟩, .slice none 0 0, pos s l, 0, 0⟩, u.oneCell' = true := by intro u hu; simp [tkC] at hu; rcases hu with rfl | rfl | rfl | rfl | rfl | rfl | rfl <;> rfl
    have HNW := Lib.hid hnw
    have HCO := Lib.hid hco
    have hown4 := Lib.hid ((HT3.out.own.alloc (.cells (tkC ⟨⟨5, [], [], t⟩, .slice none 0 0, pos s l, 0, 0⟩).toArray 34)).drew)
    have hbl : Hid ((L.length + 1) * 88 ≤ 140737488355328) := by show _ ≤ _; omega
    have hbs : Hid (b + 1 ≤ ((W3.alloc (.cells (tkC ⟨⟨5, [], [], t⟩, .slice none 0 0, pos s l, 0, 0⟩).toArray 34)).drew).heap.size) := by show _ ≤ _; simp; omega
    have hsz4 : Hid (((W3.alloc (.cells (tkC ⟨⟨5, [], [], t⟩, .slice none 0 0, pos s l, 0, 0⟩).toArray 34)).drew).heap.size = W3.heap.size + 1) := by show _ = _; simp
    clear hnw hco
    go_region_law (first | (refine step_append_one rfl (.tmp 110) (.tmp 112) 23 rfl (b + 1) 34 Try.underlying23 info_token rfl (by decide) tkC_len (.slice ao L.length cap) L (by simp [Act.eval]) hown4.out W3.heap.size ⟨⟨5, [], [], t⟩, .slice none 0 0, pos s l, 0, 0⟩ (by simp [Act.eval]) HNW.out HCO.out hbl.out (by decide) hbs.out (W3.heap.size + 1) hsz4.out ?_; intro g8 cap8 w8 hown8 hgrow8 hat8 hlt8; have hb9 := Lib.hid (hbx8.out.grown hgrow8 hne8.out); have e2 := hb9.out.cell 2 _ rfl; have ef2 := hb9.out.free 2; have el2 := hb9.out.lt; have ho9 := Lib.hid hown8; have hg9 := Lib.hid hgrow8; clear hown8 hgrow8 hat8))
    all_goals
      go_end0
      rw [HP.out]
      obtain ⟨h1, h2⟩ := HT3.out.push HG3.out hlt0 (x := ⟨⟨5, [], [], t⟩, .slice none 0 0, pos s l, 0, 0⟩) HAV.out hg9.out ho9.out
      exact ⟨rfl, _, _, h1, h2⟩

set_option maxRecDepth 100000 in
set_option maxHeartbeats 8000000 in
theorem tok_data (b : Nat) (s : S) (l : Bs) (ao : Option Addr) (cap : Nat) (L : List TkM) (m : Int) (w : World) (h : Toks w b s l (.slice ao L.length cap) L) (hs : s.size ≤ 65536) (hm : w.cell? ⟨0, 0, none⟩ = some (.int .i64 m)) (hL : L.length ≤ 1000000)
    (hno : sNote.isPrefixOf l = false) (hyes : sData.isPrefixOf l = true) :
    Calls Try.prog 54 #[.pointer (some ⟨b, 0, none⟩)] w (OutT b s (pos s l) L w ((plain eData (l.drop 9)).map fun t => ⟨4, [], [], t⟩)) := by
  have hlt0 := h.rd.box.lt
  have c1 := h.rd.c1
  have H0 := Lib.hid h
  have hs2 : s.size ≤ 1000000 := by omega
  have HM := Lib.hid hm
  have hp := pos_add h.rd.suf
  have hpb : (pos s l : Int) ≤ 65536 := by omega
  have HA : Hid (∀ w, Rd w b s l (.slice ao L.length cap) → Calls Try.prog 78 #[.pointer (some ⟨b, 0, none⟩), .string ⟨#[60, 33, 45, 45]⟩] w (Qt (.bool false) w)) := fun w h => by
    have := has_pre b s l (.slice ao L.length cap) ⟨#[60, 33, 45, 45]⟩ w h
    rw [show (⟨#[60, 33, 45, 45]⟩ : S).data.toList.isPrefixOf l = false from hno] at this; exact this
  have HB : Hid (∀ w, Rd w b s l (.slice ao L.length cap) → Calls Try.prog 78 #[.pointer (some ⟨b, 0, none⟩), .string ⟨#[60, 33, 91, 67, 68, 65, 84, 65, 91]⟩] w (Qt (.bool true) w)) := fun w h => by
    have := has_pre b s l (.slice ao L.length cap) ⟨#[60, 33, 91, 67, 68, 65, 84, 65, 91]⟩ w h
    rw [show (⟨#[60, 33, 91, 67, 68, 65, 84, 65, 91]⟩ : S).data.toList.isPrefixOf l = true from hyes] at this; exact this
  have hlen : sData.length ≤ l.length := (List.isPrefixOf_iff_prefix.1 hyes).length_le
  clear hyes hno
  have HU : Hid (∀ w, Rd w b s l (.slice ao L.length cap) → w.cell? ⟨0, 0, none⟩ = some (.int .i64 m) → Calls Try.prog 79 #[.pointer (some ⟨b, 0, none⟩), .string ⟨#[60, 33, 91, 67, 68, 65, 84, 65, 91]⟩, .string ⟨#[93, 93, 62]⟩] w (Out (fun t => .string (bs t)) b s (.slice ao L.length cap) w (plain eData (l.drop 9)))) := fun w h hm =>
    until_any b s ⟨#[60, 33, 91, 67, 68, 65, 84, 65, 91]⟩ ⟨#[93, 93, 62]⟩ l (l.drop 9) (.slice ao L.length cap) m w h rfl hlen hs2 hm (by simp) (by decide)
  clear h hm
  have hR : Rd (w.alloc (.cells #[.int .i64 0, .string ⟨#[]⟩, .slice none 0 0, .string ⟨#[]⟩, .int .i64 (pos s l), .int .i64 0, .int .i64 0] 34)) b s l (.slice ao L.length cap) := H0.out.rd.below ((Below.refl _ _).alloc (Nat.le_refl _) _)
  go_enter Try.func54, Try.ntmps54
  go_wp2_with fail
  refine Calls.world ?_
  intro W hW
  have hx : Box W w.heap.size [.int .i64 0, .string ⟨#[]⟩, .slice none 0 0, .string ⟨#[]⟩, .int .i64 (pos s l), .int .i64 0, .int .i64 0] := by rw [hW]; exact Box.new w _ _ _ rfl
  have hG : w.grownBy W (some b) := by rw [hW]; exact World.grownBy_alloc _ _ _
  rw [← hW] at hR
  have hm : W.cell? ⟨0, 0, none⟩ = some (.int .i64 m) := by rw [hW, World.cell?_alloc_lt _ _ _ (by simp; omega)]; exact HM.out
  clear hW
  clear c1
  refine (HA.out W hR).mono ?_
  rintro e w1 ⟨rfl, n0, rfl⟩
  go_wp2_with fail
  refine (HB.out _ (hR.drewN _)).mono ?_
  rintro e w1 ⟨rfl, n1, rfl⟩
  have hcall := HU.out (W.drewN (n0 + n1)) (hR.drewN _) hm
  cases hpl : plain eData (l.drop 9) with
  | bad x r =>
    rw [hpl] at hcall
    have HP := Lib.hid hpl
    clear hpl
    have HCL := Lib.hid hcall
    clear hcall hR hx
    go_wp2_with fail
    refine HCL.out.mono ?_
    intro e w2 hO
    obtain ⟨rfl, hg⟩ : Bad x s r b _ e w2 := hO
    go_wp2
    rw [HP.out]
    exact ⟨rfl, rfl, below_grown ((hG.trans (grownN _ _ _)).trans hg) (by omega)⟩
  | ok t r =>
    rw [hpl] at hcall
    have HP := Lib.hid hpl
    clear hpl
    have HCL := Lib.hid hcall
    clear hcall
    go_wp2_with fail
    refine HCL.out.mono ?_
    intro e w2 hO
    obtain ⟨rfl, hR2, hg⟩ : Goes (.string (bs t)) b s r (.slice ao L.length cap) _ e w2 := hO
    have hx2 := (hx.drewN (n0 + n1)).grownB hg (by omega)
    have hG2 := (hG.trans (grownN _ (n0 + n1) _)).trans hg
    have q0 := hx2.cell 0 _ rfl
    have q3 := hx2.cell 3 _ rfl
    have qf0 := hx2.free 0
    have qf3 := hx2.free 3
    have qlt := hx2.lt
    have HX2 := Lib.hid hx2
    have HG2 := Lib.hid hG2
    have HR2 := Lib.hid hR2
    clear hx hx2 hg hG hG2 hR hR2 hm HCL
    go_wp2
    refine wp_world ?_
    intro W3 hW3
    have hx3 : Box W3 w.heap.size [.int .i64 4, .string ⟨#[]⟩, .slice none 0 0, .string (bs t), .int .i64 (pos s l), .int .i64 0, .int .i64 0] := by rw [hW3]; exact (HX2.out.set 0 _).set 3 _
    have hR3 : Rd W3 b s r (.slice ao L.length cap) := by rw [hW3]; exact (HR2.out.setOther (by omega) _ _).setOther (by omega) _ _
    have hG3 : w.grownBy W3 (some b) := by rw [hW3]; exact grown_set (grown_set HG2.out (Nat.le_refl _) _ _) (Nat.le_refl _) _ _
    have HAV : Hid (Owns (b + 1) 43 2 atC W3 (.slice none 0 0) ([] : List At2)) := Owns.nil
    clear hW3 HX2 HG2 HR2 q0 q3 qf0 qf3 qlt
    have c2 := hR3.c2
    have f2 := hR3.box.free 2
    have hlt3 := hR3.box.lt
    have t0 := hx3.cell 0 _ rfl
    have t1 := hx3.cell 1 _ rfl
    have t2 := hx3.cell 2 _ rfl
    have t3 := hx3.cell 3 _ rfl
    have t4 := hx3.cell 4 _ rfl
    have t5 := hx3.cell 5 _ rfl
    have t6 := hx3.cell 6 _ rfl
    have tlt := hx3.lt
    have HT3 := Lib.hid (H0.out.kept hG3 hR3)
    have HR3 := Lib.hid hR3
    have HG3 := Lib.hid hG3
    clear hx3 hR3 hG3
    have hne8 : Hid (some b ≠ (Value.slice ao L.length cap).ownBlock) := fun e => by have := (HT3.out.own.lt b e.symm).1; omega
    have hbx8 : Hid (Box ((W3.alloc (.cells (tkC ⟨⟨4, [], [], t⟩, .slice none 0 0, pos s l, 0, 0⟩).toArray 34)).drew) b [.string s, .int .i64 (pos s r : Nat), .slice ao L.length cap]) := (HR3.out.box.alloc _).drew
    have hnw : ∀ j u, (tkC ⟨⟨4, [], [], t⟩, .slice none 0 0, pos s l, 0, 0⟩)[j]? = some u → ((W3.alloc (.cells (tkC ⟨⟨4, [], [], t⟩, .slice none 0 0, pos s l, 0, 0⟩).toArray 34)).drew).cell? ⟨W3.heap.size, j, none⟩ = some u := fun j u hu => (Box.new W3 (tkC ⟨⟨4, [], [], t⟩, .slice none 0 0, pos s l, 0, 0⟩) 34 _ rfl).cell j u hu
    have hco : ∀ u ∈ tkC ⟨⟨4, [], [], t⟩, .slice none 0 0, pos s l, 0, 0⟩, u.oneCell' = true := by intro u hu; simp [tkC] at hu; rcases hu with rfl | rfl | rfl | rfl | rfl | rfl | rfl <;> rfl
    have HNW := Lib.hid hnw
    have HCO := Lib.hid hco
    have hown4 := Lib.hid ((HT3.out.own.alloc (.cells (tkC ⟨⟨4, [], [], t⟩, .slice none 0 0, pos s l, 0, 0⟩).toArray 34)).drew)
    have hbl : Hid ((L.length + 1) * 88 ≤ 140737488355328) := by show _ ≤ _; omega
    have hbs : Hid (b + 1 ≤ ((W3.alloc (.cells (tkC ⟨⟨4, [], [], t⟩, .slice none 0 0, pos s l, 0, 0⟩).toArray 34)).drew).heap.size) := by show _ ≤ _; simp; omega
    have hsz4 : Hid (((W3.alloc (.cells (tkC ⟨⟨4, [], [], t⟩, .slice none 0 0, pos s l, 0, 0⟩).toArray 34)).drew).heap.size = W3.heap.size + 1) := by show _ = _; simp
    clear hnw hco
    go_region_law (first | (refine step_append_one rfl (.tmp 110) (.tmp 112) 23 rfl (b + 1) 34 Try.underlying23 info_token rfl (by decide) tkC_len (.slice ao L.length cap) L (by simp [Act.eval]) hown4.out W3.heap.size ⟨⟨4, [], [], t⟩, .slice none 0 0, pos s l, 0, 0⟩ (by simp [Act.eval]) HNW.out HCO.out hbl.out (by decide) hbs.out (W3.heap.size + 1) hsz4.out ?_; intro g8 cap8 w8 hown8 hgrow8 hat8 hlt8; have hb9 := Lib.hid (hbx8.out.grown hgrow8 hne8.out); have e2 := hb9.out.cell 2 _ rfl; have ef2 := hb9.out.free 2; have el2 := hb9.out.lt; have ho9 := Lib.hid hown8; have hg9 := Lib.hid hgrow8; clear hown8 hgrow8 hat8))
    all_goals
      go_end0
      rw [HP.out]
      obtain ⟨h1, h2⟩ := HT3.out.push HG3.out hlt0 (x := ⟨⟨4, [], [], t⟩, .slice none 0 0, pos s l, 0, 0⟩) HAV.out hg9.out ho9.out
      exact ⟨rfl, _, _, h1, h2⟩

set_option maxRecDepth 100000 in
set_option maxHeartbeats 8000000 in
theorem tok_head (b : Nat) (s : S) (l : Bs) (ao : Option Addr) (cap : Nat) (L : List TkM) (m : Int) (w : World) (h : Toks w b s l (.slice ao L.length cap) L) (hs : s.size ≤ 65536) (hm : w.cell? ⟨0, 0, none⟩ = some (.int .i64 m)) (hL : L.length ≤ 1000000)
    (hno : sNote.isPrefixOf l = false) (hno2 : sData.isPrefixOf l = false) (hp0 : pos s l = 0) (hyes2 : isHead l = true) :
    Calls Try.prog 54 #[.pointer (some ⟨b, 0, none⟩)] w (OutT b s (pos s l) L w ((plain eHead (l.drop 5)).map fun t => ⟨6, [], [], t⟩)) := by
  have hlt0 := h.rd.box.lt
  have c1 := h.rd.c1
  have H0 := Lib.hid h
  have hs2 : s.size ≤ 1000000 := by omega
  have HM := Lib.hid hm
  have hp := pos_add h.rd.suf
  have hpb : (pos s l : Int) ≤ 65536 := by omega
  have hyes : sHead.isPrefixOf l = true := by unfold isHead at hyes2; rw [Bool.and_eq_true] at hyes2; exact hyes2.1
  have HA : Hid (∀ w, Rd w b s l (.slice ao L.length cap) → Calls Try.prog 78 #[.pointer (some ⟨b, 0, none⟩), .string ⟨#[60, 33, 45, 45]⟩] w (Qt (.bool false) w)) := fun w h => by
    have := has_pre b s l (.slice ao L.length cap) ⟨#[60, 33, 45, 45]⟩ w h
    rw [show (⟨#[60, 33, 45, 45]⟩ : S).data.toList.isPrefixOf l = false from hno] at this; exact this
  have HB : Hid (∀ w, Rd w b s l (.slice ao L.length cap) → Calls Try.prog 78 #[.pointer (some ⟨b, 0, none⟩), .string ⟨#[60, 33, 91, 67, 68, 65, 84, 65, 91]⟩] w (Qt (.bool false) w)) := fun w h => by
    have := has_pre b s l (.slice ao L.length cap) ⟨#[60, 33, 91, 67, 68, 65, 84, 65, 91]⟩ w h
    rw [show (⟨#[60, 33, 91, 67, 68, 65, 84, 65, 91]⟩ : S).data.toList.isPrefixOf l = false from hno2] at this; exact this
  have HIH : Hid (∀ w, Rd w b s l (.slice ao L.length cap) → Calls Try.prog 80 #[.pointer (some ⟨b, 0, none⟩)] w (Qt (.bool true) w)) := fun w h => by
    have := isHead_any b s l (.slice ao L.length cap) w h hs2
    rw [show isHead l = true from hyes2] at this; exact this
  have hlen : sHead.length ≤ l.length := (List.isPrefixOf_iff_prefix.1 hyes).length_le
  clear hyes hyes2 hno hno2
  have HU : Hid (∀ w, Rd w b s l (.slice ao L.length cap) → w.cell? ⟨0, 0, none⟩ = some (.int .i64 m) → Calls Try.prog 79 #[.pointer (some ⟨b, 0, none⟩), .string ⟨#[60, 63, 120, 109, 108]⟩, .string ⟨#[63, 62]⟩] w (Out (fun t => .string (bs t)) b s (.slice ao L.length cap) w (plain eHead (l.drop 5)))) := fun w h hm =>
    until_any b s ⟨#[60, 63, 120, 109, 108]⟩ ⟨#[63, 62]⟩ l (l.drop 5) (.slice ao L.length cap) m w h rfl hlen hs2 hm (by simp) (by decide)
  have e0 : (((pos s l : Nat) : Int) == 0) = true := by rw [hp0]; rfl
  clear hp0
  clear h hm
  have hR : Rd (w.alloc (.cells #[.int .i64 0, .string ⟨#[]⟩, .slice none 0 0, .string ⟨#[]⟩, .int .i64 (pos s l), .int .i64 0, .int .i64 0] 34)) b s l (.slice ao L.length cap) := H0.out.rd.below ((Below.refl _ _).alloc (Nat.le_refl _) _)
  go_enter Try.func54, Try.ntmps54
  go_wp2_with fail
  refine Calls.world ?_
  intro W hW
  have hx : Box W w.heap.size [.int .i64 0, .string ⟨#[]⟩, .slice none 0 0, .string ⟨#[]⟩, .int .i64 (pos s l), .int .i64 0, .int .i64 0] := by rw [hW]; exact Box.new w _ _ _ rfl
  have hG : w.grownBy W (some b) := by rw [hW]; exact World.grownBy_alloc _ _ _
  rw [← hW] at hR
  have hm : W.cell? ⟨0, 0, none⟩ = some (.int .i64 m) := by rw [hW, World.cell?_alloc_lt _ _ _ (by simp; omega)]; exact HM.out
  clear hW
  clear c1
  have c1 := hR.c1
  refine (HA.out W hR).mono ?_
  rintro e w1 ⟨rfl, n0, rfl⟩
  go_wp2_with fail
  refine (HB.out _ (hR.drewN _)).mono ?_
  rintro e w1 ⟨rfl, n1, rfl⟩
  go_wp2_with fail
  refine (HIH.out _ (hR.drewN _)).mono ?_
  rintro e w1 ⟨rfl, n2, rfl⟩
  have hcall := HU.out (W.drewN (n0 + n1 + n2)) (hR.drewN _) hm
  cases hpl : plain eHead (l.drop 5) with
  | bad x r =>
    rw [hpl] at hcall
    have HP := Lib.hid hpl
    clear hpl
    have HCL := Lib.hid hcall
    clear hcall hR hx
    go_wp2_with fail
    refine HCL.out.mono ?_
    intro e w2 hO
    obtain ⟨rfl, hg⟩ : Bad x s r b _ e w2 := hO
    go_wp2
    rw [HP.out]
    exact ⟨rfl, rfl, below_grown ((hG.trans (grownN _ _ _)).trans hg) (by omega)⟩
  | ok t r =>
    rw [hpl] at hcall
    have HP := Lib.hid hpl
    clear hpl
    have HCL := Lib.hid hcall
    clear hcall
    go_wp2_with fail
    refine HCL.out.mono ?_
    intro e w2 hO
    obtain ⟨rfl, hR2, hg⟩ : Goes (.string (bs t)) b s r (.slice ao L.length cap) _ e w2 := hO
    have hx2 := (hx.drewN (n0 + n1 + n2)).grownB hg (by omega)
    have hG2 := (hG.trans (grownN _ (n0 + n1 + n2) _)).trans hg
    have q0 := hx2.cell 0 _ rfl
    have q3 := hx2.cell 3 _ rfl
    have qf0 := hx2.free 0
    have qf3 := hx2.free 3
    have qlt := hx2.lt
    have HX2 := Lib.hid hx2
    have HG2 := Lib.hid hG2
    have HR2 := Lib.hid hR2
    clear hx hx2 hg hG hG2 hR hR2 hm HCL
    go_wp2
    refine wp_world ?_
    intro W3 hW3
    have hx3 : Box W3 w.heap.size [.int .i64 6, .string ⟨#[]⟩, .slice none 0 0, .string (bs t), .int .i64 (pos s l), .int .i64 0, .int .i64 0] := by rw [hW3]; exact (HX2.out.set 0 _).set 3 _
    have hR3 : Rd W3 b s r (.slice ao L.length cap) := by rw [hW3]; exact (HR2.out.setOther (by omega) _ _).setOther (by omega) _ _
    have hG3 : w.grownBy W3 (some b) := by rw [hW3]; exact grown_set (grown_set HG2.out (Nat.le_refl _) _ _) (Nat.le_refl _) _ _
    have HAV : Hid (Owns (b + 1) 43 2 atC W3 (.slice none 0 0) ([] : List At2)) := Owns.nil
    clear hW3 HX2 HG2 HR2 q0 q3 qf0 qf3 qlt
    have c2 := hR3.c2
    have f2 := hR3.box.free 2
    have hlt3 := hR3.box.lt
    have t0 := hx3.cell 0 _ rfl
    have t1 := hx3.cell 1 _ rfl
    have t2 := hx3.cell 2 _ rfl
    have t3 := hx3.cell 3 _ rfl
    have t4 := hx3.cell 4 _ rfl
    have t5 := hx3.cell 5 _ rfl
    have t6 := hx3.cell 6 _ rfl
    have tlt := hx3.lt
    have HT3 := Lib.hid (H0.out.kept hG3 hR3)
    have HR3 := Lib.hid hR3
    have HG3 := Lib.hid hG3
    clear hx3 hR3 hG3
    have hne8 : Hid (some b ≠ (Value.slice ao L.length cap).ownBlock) := fun e => by have := (HT3.out.own.lt b e.symm).1; omega
    have hbx8 : Hid (Box ((W3.alloc (.cells (tkC ⟨⟨6, [], [], t⟩, .slice none 0 0, pos s l, 0, 0⟩).toArray 34)).drew) b [.string s, .int .i64 (pos s r : Nat), .slice ao L.length cap]) := (HR3.out.box.alloc _).drew
    have hnw : ∀ j u, (tkC ⟨⟨6, [], [], t⟩, .slice none 0 0, pos s l, 0, 0⟩)[j]? = some u → ((W3.alloc (.cells (tkC ⟨⟨6, [], [], t⟩, .slice none 0 0, pos s l, 0, 0⟩).toArray 34)).drew).cell? ⟨W3.heap.size, j, none⟩ = some u := fun j u hu => (Box.new W3 (tkC ⟨⟨6, [], [], t⟩, .slice none 0 0, pos s l, 0, 0⟩) 34 _ rfl).cell j u hu
    have hco : ∀ u ∈ tkC ⟨⟨6, [], [], t⟩, .slice none 0 0, pos s l, 0, 0⟩, u.oneCell' = true := by intro u hu; simp [tkC] at hu; rcases hu with rfl | rfl | rfl | rfl | rfl | rfl | rfl <;> rfl
    have HNW := Lib.hid hnw
    have HCO := Lib.hid hco
    have hown4 := Lib.hid ((HT3.out.own.alloc (.cells (tkC ⟨⟨6, [], [], t⟩, .slice none 0 0, pos s l, 0, 0⟩).toArray 34)).drew)
    have hbl : Hid ((L.length + 1) * 88 ≤ 140737488355328) := by show _ ≤ _; omega
    have hbs : Hid (b + 1 ≤ ((W3.alloc (.cells (tkC ⟨⟨6, [], [], t⟩, .slice none 0 0, pos s l, 0, 0⟩).toArray 34)).drew).heap.size) := by show _ ≤ _; simp; omega
    have hsz4 : Hid (((W3.alloc (.cells (tkC ⟨⟨6, [], [], t⟩, .slice none 0 0, pos s l, 0, 0⟩).toArray 34)).drew).heap.size = W3.heap.size + 1) := by show _ = _; simp
    clear hnw hco
    go_region_law (first | (refine step_append_one rfl (.tmp 110) (.tmp 112) 23 rfl (b + 1) 34 Try.underlying23 info_token rfl (by decide) tkC_len (.slice ao L.length cap) L (by simp [Act.eval]) hown4.out W3.heap.size ⟨⟨6, [], [], t⟩, .slice none 0 0, pos s l, 0, 0⟩ (by simp [Act.eval]) HNW.out HCO.out hbl.out (by decide) hbs.out (W3.heap.size + 1) hsz4.out ?_; intro g8 cap8 w8 hown8 hgrow8 hat8 hlt8; have hb9 := Lib.hid (hbx8.out.grown hgrow8 hne8.out); have e2 := hb9.out.cell 2 _ rfl; have ef2 := hb9.out.free 2; have el2 := hb9.out.lt; have ho9 := Lib.hid hown8; have hg9 := Lib.hid hgrow8; clear hown8 hgrow8 hat8))
    all_goals
      go_end0
      rw [HP.out]
      obtain ⟨h1, h2⟩ := HT3.out.push HG3.out hlt0 (x := ⟨⟨6, [], [], t⟩, .slice none 0 0, pos s l, 0, 0⟩) HAV.out hg9.out ho9.out
      exact ⟨rfl, _, _, h1, h2⟩

end Go.Proofs.Ytpchljiiappmnaa

/- The walk of the builder's letters; its conditions stand in the theorem. -/
namespace Go.Proofs.Ytpchljiiappmnaa
open Go Go.RowKit
variable {lo : Nat}

/-- How long a text may be that n tokens have made. -/
def tmax (n : Nat) : Nat := n * 2000000
theorem tmax_mono {n m : Nat} (h : n ≤ m) : tmax n ≤ tmax m := Nat.mul_le_mul_right _ h
theorem tmax_succ (n : Nat) : tmax (n + 1) = tmax n + 2000000 := by unfold tmax; rw [Nat.add_mul, Nat.one_mul]
theorem tmax_le {n : Nat} (h : n ≤ 1000000) : tmax n ≤ 2000000000000 := by
  have := tmax_mono h
  have h2 : tmax 1000000 = 2000000000000 := by decide
  omega

/-- The builder behind n tokens. -/
structure BOf (lo : Nat) (w : World) (B : Nat) (st : BSt) (n : Nat) (X : Nat → Prop) (ov : Value) (ps : List (Nat × Nat)) : Prop where
  core : Core 54 124 lo w B st.stack st.root X ov ps (.int .i64 st.count) (.bool st.root.isSome) (.bool st.text)
  tx : st.text = true → ∃ f fs ks t, st.stack = f :: fs ∧ f.kids = ks ++ [t] ∧ t.text.length ≤ tmax n
  kd : ∀ f ∈ st.stack, f.kids.length ≤ n
  cn : st.count ≤ n
  sn : st.stack.length ≤ n

/-- What a step of the builder returns and leaves. -/
def StepOut (lo : Nat) (w : World) (B n : Nat) : StR → Ending → World → Prop
  | .ok st => fun e w' => e = .returned (.int .i64 0) ∧ (∃ X ov ps, BOf lo w' B st n X ov ps) ∧ Below B w w'
  | .bad x => fun e w' => e = .returned (.int .i64 x) ∧ w.grownBy w' (some B) ∧ Below B w w'

theorem BOf.mono {w : World} {B : Nat} {st : BSt} {n m : Nat} {X : Nat → Prop} {ov : Value} {ps : List (Nat × Nat)} (h : BOf lo w B st n X ov ps) (hnm : n ≤ m) : BOf lo w B st m X ov ps :=
  ⟨h.core, fun ht => by obtain ⟨f, fs, ks, t, h1, h2, h3⟩ := h.tx ht; exact ⟨f, fs, ks, t, h1, h2, Nat.le_trans h3 (tmax_mono hnm)⟩, fun f hf => Nat.le_trans (h.kd f hf) hnm, Nat.le_trans h.cn hnm, Nat.le_trans h.sn hnm⟩
theorem BOf.below {w w' : World} {B : Nat} {st : BSt} {n : Nat} {X : Nat → Prop} {ov : Value} {ps : List (Nat × Nat)} (h : BOf lo w B st n X ov ps) (hb : Below w.heap.size w w') : BOf lo w' B st n X ov ps := ⟨h.core.below hb, h.tx, h.kd, h.cn, h.sn⟩
theorem BOf.drewN {w : World} {B : Nat} {st : BSt} {n : Nat} {X : Nat → Prop} {ov : Value} {ps : List (Nat × Nat)} (h : BOf lo w B st n X ov ps) (k : Nat) : BOf lo (w.drewN k) B st n X ov ps := h.below (belowN (Below.refl _ _) k)
theorem BOf.shape {w : World} {B : Nat} {st : BSt} {n : Nat} {X : Nat → Prop} {ov : Value} {ps : List (Nat × Nat)} (h : BOf lo w B st n X ov ps) : ∃ ao cap, ov = .slice ao st.stack.length cap := by
  rcases h.core.opn with ⟨rfl, rfl⟩ | ⟨g, cap, k, rfl, -⟩
  · exact ⟨none, 0, by rw [← h.core.len]; rfl⟩
  · exact ⟨_, cap, by rw [h.core.len]⟩

/-- The last thing was a text. -/
theorem BOf.more {w : World} {B : Nat} {f : Fr} {fs : List Fr} {r : Option Tr} {c n : Nat} {X : Nat → Prop} {ov : Value} {ps : List (Nat × Nat)} (s : Bs) (h : BOf lo w B ⟨f :: fs, r, c, true⟩ n X ov ps) (hs : s.length ≤ 2000000) :
    ∃ (b o : Nat) (av : Value) (g cap k : Nat) (x : Bs) (qs : List (Nat × Nat)), ps = qs.reverse ++ [(b, o)] ∧ k + 1 ≤ n ∧ x.length ≤ tmax n ∧ g < w.heap.size ∧ b < w.heap.size ∧ B ≤ g ∧ k + 1 ≤ cap ∧ cap ≤ maxLen ∧ w.cell? ⟨b, o + 2, none⟩ = some (.slice (some ⟨g, 0, none⟩) (k + 1) cap) ∧ w.cell? ⟨g, k * 4 + 3, none⟩ = some (.string (bs x)) ∧ w.frozen? ⟨g, k * 4 + 3, none⟩ = false ∧
      w.cell? ⟨b, o + 1, none⟩ = some av ∧ ∃ X' ov' ps', BOf lo (w.setCell ⟨g, k * 4 + 3, none⟩ (.string (bs (x ++ s)))) B ⟨f.more s :: fs, r, c, true⟩ (n + 1) X' ov' ps' := by
  obtain ⟨f', fs', ks, t, h1, h2, h3⟩ := h.tx rfl
  simp only [List.cons.injEq] at h1
  obtain ⟨rfl, rfl⟩ := h1
  have ht := h.core.tree
  generalize hst : f :: fs = st at ht
  cases ht with
  | empty => cases hst
  | root => cases hst
  | @inside b o f' fs' qs L av kv inn up =>
    cases hst
    have his := inn.is
    rw [h2] at his
    obtain ⟨L', y, rfl⟩ : ∃ L' y, L = L' ++ [y] := by
      rcases List.eq_nil_or_concat L with rfl | ⟨L', y, rfl⟩
      · simp at his
      · exact ⟨L', y, by simp⟩
    rw [List.map_append] at his
    obtain ⟨hk1, hk2⟩ := List.append_inj' his rfl
    obtain ⟨t', ya, yk⟩ := y
    simp only [List.map_cons, List.map_nil, List.cons.injEq, and_true] at hk2
    subst hk2
    obtain ⟨tn, ta, tk, tx⟩ := t'
    have hLn : L'.length + 1 ≤ n := by
      have := h.kd f (by simp)
      rw [h2, ← hk1] at this
      simpa using this
    obtain ⟨ao, cap, rfl⟩ := inn.own.shape
    rcases ao with _ | ⟨g, z, sp⟩
    · rcases inn.own.2 with ⟨e, -⟩ | ⟨g, cap', cur, e, -⟩ <;> simp at e
    · have hsp : sp = none ∧ z = 0 := by
        rcases inn.own.2 with ⟨e, -⟩ | ⟨g, cap', cur, e, -⟩
        · simp at e
        · simp only [Value.slice.injEq, Option.some.injEq, Addr.mk.injEq] at e; exact ⟨e.1.2.2, e.1.2.1⟩
      obtain ⟨rfl, rfl⟩ := hsp
      have hlen : (L' ++ [((.mk tn ta tk tx : Tr), ya, yk)]).length = L'.length + 1 := by simp
      rw [hlen] at inn
      obtain ⟨-, hbg, hrow, -, hcap, hm⟩ := inn.own.row
      have hge := up.ge
      have hcell : w.cell? ⟨g, L'.length * 4 + 3, none⟩ = some (.string (bs tx)) := by
        have := inn.own.cells0 (L'.length * 4 + 3) _ (flat_at L' _ (j := 3) rfl)
        rwa [Nat.zero_add] at this
      refine ⟨b, o, av, g, cap, L'.length, tx, qs, rfl, hLn, h3, hrow.lt, h.core.xsize b inn.xb, by omega, by simpa using hcap, hm, inn.cells 2 _ rfl, hcell, hrow.free _, inn.cells 1 _ rfl, X, ov, _, Core.more node_ptr h.core inn up, fun _ => ⟨_, _, L'.map (·.1), .mk tn ta tk (tx ++ s), rfl, ?_, ?_⟩, fun f' hf' => ?_, by have := h.cn; simp at this ⊢; omega, by have := h.sn; simp at this ⊢; omega⟩
      · simp only [Fr.more, h2, ← hk1]
        exact addText_snoc s _ tn ta tk tx
      · have h3' : tx.length ≤ tmax n := h3
        show (tx ++ s).length ≤ _
        rw [List.length_append, tmax_succ]; omega
      · rcases List.mem_cons.1 hf' with rfl | hf'
        · simp only [Fr.more, h2, ← hk1, addText_snoc]
          simp; omega
        · have := h.kd f' (by simp [hf']); omega

end Go.Proofs.Ytpchljiiappmnaa

/- The walk of the builder's letters; its conditions stand in the theorem. -/
namespace Go.Proofs.Ytpchljiiappmnaa
open Go Go.RowKit
variable {lo : Nat}

theorem info_node : (Try.prog.info? 54).map (fun i => (i.zero, i.size, i.bytes)) = some (some (.agg #[.string ⟨#[]⟩, .slice none 0 0, .slice none 0 0, .string ⟨#[]⟩]), 4, 80) := by kernel_rfl
def zeroNode : TrV := ((.mk [] [] [] [] : Tr), .slice none 0 0, .slice none 0 0)
theorem zeroNode_one : ∀ u ∈ trC zeroNode, u.oneCell' = true := by
  intro u hu
  simp only [trC, nodeC, zeroNode, Tr.name, Tr.text, List.mem_cons, List.not_mem_nil, or_false] at hu
  rcases hu with rfl | rfl | rfl | rfl <;> rfl

theorem setCell_comm (w : World) (a b : Addr) (u v : Value) (h : a.block ≠ b.block) : (w.setCell a u).setCell b v = (w.setCell b v).setCell a u := by
  unfold World.setCell
  congr 1
  apply Array.ext_getElem?
  intro i
  simp only [Array.getElem?_modify]
  by_cases h1 : a.block = i
  · have h2 : ¬ b.block = i := fun e => h (h1.trans e.symm)
    simp [h1, h2]
  · by_cases h2 : b.block = i
    · simp [h1, h2]
    · simp [h1, h2]

theorem Core.data {w : World} {B : Nat} {f : Fr} {fs : List Fr} {r : Option Tr} {X : Nat → Prop} {ov : Value} {ps : List (Nat × Nat)} {c d t : Value} (h : Core 54 124 lo w B (f :: fs) r X ov ps c d t) :
    ∃ (b o : Nat) (L : List TrV) (av : Value) (ao : Option Addr) (cap : Nat) (qs : List (Nat × Nat)), r = none ∧ ps = qs.reverse ++ [(b, o)] ∧ Inner 54 X w b o f L av (.slice ao L.length cap) ∧ Up 54 B X w b o fs qs ∧ b < w.heap.size ∧ B ≤ b ∧ (b = B → o = 0) ∧
      w.cell? ⟨b, o, none⟩ = some (.string (bs f.name)) ∧ w.cell? ⟨b, o + 2, none⟩ = some (.slice ao L.length cap) ∧ w.frozen? ⟨b, o + 2, none⟩ = false := by
  have ht := h.tree
  generalize hst : f :: fs = st at ht
  cases ht with
  | empty => cases hst
  | root => cases hst
  | @inside b o f' fs' qs L av kv inn up =>
    cases hst
    obtain ⟨ao, cap, rfl⟩ := inn.own.shape
    exact ⟨b, o, L, av, ao, cap, qs, rfl, rfl, inn, up, h.xsize b inn.xb, up.ge, fun e => by rcases up.place with ⟨-, h0, -⟩ | ⟨h1, -⟩ <;> omega, inn.cells 0 _ rfl, inn.cells 2 _ rfl, h.free b inn.xb (Nat.le_trans h.loB up.ge) _⟩

/-- The node that has been appended is stored. -/
theorem Owns.nodeSt {base E g cap : Nat} {w : World} {L : List TrV} (h : Owns base E 4 trC w (.slice (some ⟨g, 0, none⟩) (L.length + 1) cap) (L ++ [zeroNode])) (n : Bs) (ats : List At2) (x : Bs) (av : Value) :
    Owns base E 4 trC ((((w.setCell ⟨g, L.length * 4, none⟩ (.string (bs n))).setCell ⟨g, L.length * 4 + 1, none⟩ av).setCell ⟨g, L.length * 4 + 2, none⟩ (.slice none 0 0)).setCell ⟨g, L.length * 4 + 3, none⟩ (.string (bs x))) (.slice (some ⟨g, 0, none⟩) (L.length + 1) cap) (L ++ [((.mk n ats [] x : Tr), av, .slice none 0 0)]) := by
  have hl : ∀ y : TrV, (L ++ [y])[L.length]? = some y := fun y => by simp
  have hs : ∀ y z : TrV, (L ++ [y]).set L.length z = L ++ [z] := fun y z => by simp
  obtain ⟨g1, e1, -, -, -, -, -, s1⟩ := own_store (j := 0) trC_len h (hl _) (by decide)
  cases e1
  have h1 := s1 (.string (bs n)) ((.mk n [] [] [] : Tr), .slice none 0 0, .slice none 0 0) rfl
  rw [hs, Nat.add_zero] at h1
  obtain ⟨g1, e1, -, -, -, -, -, s1⟩ := own_store (j := 1) trC_len h1 (hl _) (by decide)
  cases e1
  have h2 := s1 av ((.mk n ats [] [] : Tr), av, .slice none 0 0) rfl
  rw [hs] at h2
  obtain ⟨g1, e1, -, -, -, -, -, s1⟩ := own_store (j := 2) trC_len h2 (hl _) (by decide)
  cases e1
  have h3 := s1 (.slice none 0 0) ((.mk n ats [] [] : Tr), av, .slice none 0 0) rfl
  rw [hs] at h3
  obtain ⟨g1, e1, -, -, -, -, -, s1⟩ := own_store (j := 3) trC_len h3 (hl _) (by decide)
  cases e1
  have h4 := s1 (.string (bs x)) ((.mk n ats [] x : Tr), av, .slice none 0 0) rfl
  rw [hs] at h4
  exact h4
theorem Owns.nodeCells {base E g cap : Nat} {w : World} {L : List TrV} (h : Owns base E 4 trC w (.slice (some ⟨g, 0, none⟩) (L.length + 1) cap) (L ++ [zeroNode])) (j : Nat) (hj : j < 4) :
    w.frozen? ⟨g, L.length * 4 + j, none⟩ = false ∧ ∃ u, w.cell? ⟨g, L.length * 4 + j, none⟩ = some u := by
  obtain ⟨g1, e1, -, -, h1, h2, -⟩ := own_store (j := j) trC_len h (by simp : (L ++ [zeroNode])[L.length]? = some zeroNode) hj
  cases e1
  exact ⟨h2, _, by rw [h1]; exact List.getElem?_eq_getElem (by rw [trC_len]; exact hj)⟩
theorem grown_set4 {w w1 : World} {g m : Nat} {row : Option Nat} (h : w.grownBy w1 row) (hg : row = some g ∨ g = w.heap.size) (u0 u1 u2 u3 : Value) :
    w.grownBy ((((w1.setCell ⟨g, m, none⟩ u0).setCell ⟨g, m + 1, none⟩ u1).setCell ⟨g, m + 2, none⟩ u2).setCell ⟨g, m + 3, none⟩ u3) row := by
  have hs : w1.grownBy ((((w1.setCell ⟨g, m, none⟩ u0).setCell ⟨g, m + 1, none⟩ u1).setCell ⟨g, m + 2, none⟩ u2).setCell ⟨g, m + 3, none⟩ u3) (some g) := (((setCell_grown _ _ _ _).trans (setCell_grown _ _ _ _)).trans (setCell_grown _ _ _ _)).trans (setCell_grown _ _ _ _)
  refine ⟨hs.os.trans h.os, hs.tape.trans h.tape, hs.output.trans h.output, Nat.le_trans h.size hs.size, fun k hk hne => (hs.block k (Nat.lt_of_lt_of_le hk h.size) (fun e => ?_)).trans (h.block k hk hne)⟩
  cases e
  rcases hg with e | e
  · exact hne e.symm
  · omega

set_option maxRecDepth 100000 in
set_option maxHeartbeats 8000000 in
theorem lettersB_out (w : World) (B n : Nat) (r : Option Tr) (c : Nat) (tx : Bool) (X : Nat → Prop) (ov : Value) (ps : List (Nat × Nat)) (s : Bs) (h : BOf lo w B ⟨[], r, c, tx⟩ n X ov ps) (hs : s.length ≤ 2000000) :
    Calls Try.prog 97 #[.pointer (some ⟨B, 0, none⟩), .string (bs s)] w (StepOut lo w B (n + 1) (lettersB ⟨[], r, c, tx⟩ s)) := by
  have hlt := h.core.lt
  have c4 := h.core.c4
  obtain ⟨ao, cap, hov⟩ := h.shape
  rw [hov] at c4
  simp only [List.length_nil] at c4
  have H := Lib.hid h
  clear h hov
  go_enter Try.func97, Try.ntmps97
  go_wp2_with fail
  refine (trim_any (bs s) w (by rw [bs_size]; omega)).mono ?_
  rintro e w' ⟨x, rfl, hx, rfl⟩
  rw [bs_data] at hx
  have he : x.toList.isEmpty = (trimB s).isEmpty := by
    rw [empty_data, ← size_data, hx]
    cases trimB s <;> simp
  have HX := Lib.hid hx
  clear hx
  cases ht : (trimB s).isEmpty with
  | true =>
    rw [ht] at he
    have HT := Lib.hid ht
    clear ht
    go_wp2
    go_ret
    have : lettersB ⟨[], r, c, tx⟩ s = .ok ⟨[], r, c, tx⟩ := by simp only [lettersB, HT.out, if_true]
    rw [this]
    exact ⟨rfl, ⟨X, ov, ps, H.out.mono (Nat.le_succ n)⟩, Below.refl _ _⟩
  | false =>
    rw [ht] at he
    have HT := Lib.hid ht
    clear ht
    go_wp2
    go_ret
    have : lettersB ⟨[], r, c, tx⟩ s = .bad 16 := by simp only [lettersB, HT.out]; rfl
    rw [this]
    exact ⟨rfl, World.grownBy.refl _ _, Below.refl _ _⟩

end Go.Proofs.Ytpchljiiappmnaa

/- The walk of the builder's letters inside of an element; its conditions stand in the theorem. -/
namespace Go.Proofs.Ytpchljiiappmnaa
open Go Go.RowKit
variable {lo : Nat}

theorem below_kept {B : Nat} {w w' : World} (h : w.grownBy w' (some B)) (hB : B ≤ w.heap.size) : Below B w w' := below_grown h hB

set_option maxRecDepth 100000 in
set_option maxHeartbeats 8000000 in
theorem lettersB_none (w : World) (B n : Nat) (f : Fr) (fs : List Fr) (r : Option Tr) (c : Nat) (tx : Bool) (X : Nat → Prop) (ov : Value) (ps : List (Nat × Nat)) (h : BOf lo w B ⟨f :: fs, r, c, tx⟩ n X ov ps) :
    Calls Try.prog 97 #[.pointer (some ⟨B, 0, none⟩), .string (bs [])] w (StepOut lo w B (n + 1) (lettersB ⟨f :: fs, r, c, tx⟩ [])) := by
  have hlt := h.core.lt
  have c4 := h.core.c4
  obtain ⟨ao, cap, hov⟩ := h.shape
  rw [hov] at c4
  simp only [List.length_cons] at c4
  obtain ⟨b, o, L, av, ao2, cap2, qs, -, hps, -⟩ := h.core.data
  have HT := Lib.hid (top_any (by have := h.core; rw [hps] at this; exact this))
  have hn1 : ((fs.length + 1 : Nat) : Int) ≠ 0 := by omega
  have H := Lib.hid h
  clear h hov hps
  have he : (bs [] : S).toList.isEmpty = true := by rw [empty_data]; rfl
  generalize (bs [] : S) = e0 at *
  go_enter Try.func97, Try.ntmps97
  go_wp2_with fail
  refine HT.out.mono ?_
  rintro e w' ⟨rfl, k, rfl⟩
  go_wp2
  go_ret
  exact ⟨rfl, ⟨X, ov, ps, (H.out.drewN k).mono (Nat.le_succ n)⟩, belowN (Below.refl _ _) k⟩

set_option maxRecDepth 100000 in
set_option maxHeartbeats 8000000 in
theorem lettersB_text (w : World) (B n : Nat) (f : Fr) (fs : List Fr) (r : Option Tr) (c : Nat) (X : Nat → Prop) (ov : Value) (ps : List (Nat × Nat)) (s : Bs) (h : BOf lo w B ⟨f :: fs, r, c, true⟩ n X ov ps) (hs0 : s ≠ []) (hs : s.length ≤ 2000000) (hn : n ≤ 1000000) :
    Calls Try.prog 97 #[.pointer (some ⟨B, 0, none⟩), .string (bs s)] w (StepOut lo w B (n + 1) (lettersB ⟨f :: fs, r, c, true⟩ s)) := by
  have hlt := h.core.lt
  have c4 := h.core.c4
  obtain ⟨ao, cap, hov⟩ := h.shape
  rw [hov] at c4
  simp only [List.length_cons] at c4
  obtain ⟨b, o, L, av, ao2, cap2, qs, -, hps, -⟩ := h.core.data
  have HT := Lib.hid (top_any (by have := h.core; rw [hps] at this; exact this))
  have hn1 : ((fs.length + 1 : Nat) : Int) ≠ 0 := by omega
  have H := Lib.hid h
  clear h hov
  have he : (bs s : S).toList.isEmpty = false := by rw [empty_data, bs_size]; simpa using hs0
  have hl : lettersB ⟨f :: fs, r, c, true⟩ s = .ok ⟨f.more s :: fs, r, c, true⟩ := by
    cases s with
    | nil => exact absurd rfl hs0
    | cons x s => simp [lettersB]
  rw [hl]
  have HSZ : Hid ((bs s : S).size = s.length) := bs_size s
  obtain ⟨S1, hS1⟩ : ∃ S1 : S, S1 = bs s := ⟨_, rfl⟩
  have HS1 := Lib.hid hS1
  rw [← hS1] at he ⊢
  clear hS1 hl
  go_enter Try.func97, Try.ntmps97
  go_wp2_with fail
  refine HT.out.mono ?_
  rintro e w' ⟨rfl, k, rfl⟩
  obtain ⟨b', o', av', g, cap', z, x, qs', hps', hz, hx, hg, hb, hBg, hzc, hm, q2, q3, f3, q1, X', ov', ps', HB⟩ := ((H.out.drewN k).drewN 1).more s hs
  obtain ⟨rfl, rfl⟩ : b = b' ∧ o = o' := by
    rw [hps] at hps'
    have := (List.append_inj' hps' rfl).2
    simpa using this
  have HBB := Lib.hid HB
  have c7 := (H.out.drewN k).core.c7
  obtain ⟨T1, hT1⟩ : ∃ T1 : S, T1 = bs x := ⟨_, rfl⟩
  have hsum : ¬ 9223372036854775807 < T1.size + S1.size := by
    rw [hT1, bs_size, HS1.out, HSZ.out]
    have := tmax_le hn
    omega
  have hT1' : T1 ++ S1 = bs (x ++ s) := by rw [hT1, HS1.out, bs_append]
  have HTT := Lib.hid hT1'
  rw [← hT1] at q3
  clear hT1 HB hT1' hps hps'
  have e2 : (w.drewN k).cell? ⟨b, o + 2, none⟩ = some (.slice (some ⟨g, 0, none⟩) (z + 1) cap') := q2
  have e3 : (w.drewN k).cell? ⟨g, z * 4 + 3, none⟩ = some (.string T1) := q3
  have ef : (w.drewN k).frozen? ⟨g, z * 4 + 3, none⟩ = false := f3
  have eg : g < (w.drewN k).heap.size := hg
  have eb : b < (w.drewN k).heap.size := hb
  have hz1 : IntKind.i64.wrap (z : Int) = z := IntWalk.i64_in _ (by omega)
  have hz2 : (z : Int) < (z : Int) + 1 := by omega
  have hz3 : (0 : Int) ≤ z := by omega
  clear q1 q2 q3 f3 hg hb
  have hBB : Below B w (w.drewN k) := belowN (Below.refl _ _) k
  have HBW := Lib.hid hBB
  have HB2 : Hid (∀ W, W = w.drewN k → BOf lo (W.drew.setCell ⟨g, z * 4 + 3, none⟩ (.string (T1 ++ S1))) B ⟨f.more s :: fs, r, c, true⟩ (n + 1) X' ov' ps') := by
    intro W hW
    rw [hW, HTT.out]
    exact HBB.out
  have HB3 := HB2.out (w.drewN k) rfl
  have HB4 := Lib.hid HB3
  have hltk : B < (w.drewN k).heap.size := hlt
  clear hBB HBB HB2 HB3 hlt HT c4
  generalize w.drewN k = W at *
  go_wp2
  go_still_tail 14, (by kernel_rfl)
  change wpList _ _ _ _ _ W.drew
  go_wp2
  go_ret
  exact ⟨rfl, ⟨X', ov', ps', HB4.out⟩, below_set (belowN HBW.out 1) g _ _ hBg⟩

end Go.Proofs.Ytpchljiiappmnaa

/- The walk of the builder's letters where a text is added; its conditions stand in the theorem. -/
namespace Go.Proofs.Ytpchljiiappmnaa
open Go Go.RowKit
variable {lo : Nat}

theorem Core.step_kid {W : World} {B : Nat} {f : Fr} {fs : List Fr} {X : Nat → Prop} {ov : Value} {c d t : Value} {b o : Nat} {L : List TrV} {av : Value} {ao : Option Addr} {cap : Nat} {qs : List (Nat × Nat)}
    (h : Core 54 124 lo W B (f :: fs) none X ov (qs.reverse ++ [(b, o)]) c d t) (inn : Inner 54 X W b o f L av (.slice ao L.length cap)) (up : Up 54 B X W b o fs qs) {W1 : World} (hb1 : Below W.heap.size W W1)
    {g cap8 : Nat} {w8 : World} (ho : Owns (b + 1) 54 4 trC w8 (.slice (some ⟨g, 0, none⟩) (L.length + 1) cap8) (L ++ [zeroNode])) (hg : W1.grownBy w8 (Value.slice ao L.length cap).ownBlock) (hat : (Value.slice ao L.length cap).ownBlock = some g ∨ g = W1.heap.size)
    (nm : Bs) (ats : List At2) (x : Bs) (ya : Value) (hy : SliceX 2 atC X W ya ats) :
    ∃ X', Inner 54 X' (((((w8.setCell ⟨g, L.length * 4, none⟩ (.string (bs nm))).setCell ⟨g, L.length * 4 + 1, none⟩ ya).setCell ⟨g, L.length * 4 + 2, none⟩ (.slice none 0 0)).setCell ⟨g, L.length * 4 + 3, none⟩ (.string (bs x))).setCell ⟨b, o + 2, none⟩ (.slice (some ⟨g, 0, none⟩) (L.length + 1) cap8)) b o (f.add (.mk nm ats [] x)) (L ++ [((.mk nm ats [] x : Tr), ya, .slice none 0 0)]) av (.slice (some ⟨g, 0, none⟩) (L.length + 1) cap8) ∧
      Up 54 B X' (((((w8.setCell ⟨g, L.length * 4, none⟩ (.string (bs nm))).setCell ⟨g, L.length * 4 + 1, none⟩ ya).setCell ⟨g, L.length * 4 + 2, none⟩ (.slice none 0 0)).setCell ⟨g, L.length * 4 + 3, none⟩ (.string (bs x))).setCell ⟨b, o + 2, none⟩ (.slice (some ⟨g, 0, none⟩) (L.length + 1) cap8)) b o fs qs ∧
      Core 54 124 lo (((((w8.setCell ⟨g, L.length * 4, none⟩ (.string (bs nm))).setCell ⟨g, L.length * 4 + 1, none⟩ ya).setCell ⟨g, L.length * 4 + 2, none⟩ (.slice none 0 0)).setCell ⟨g, L.length * 4 + 3, none⟩ (.string (bs x))).setCell ⟨b, o + 2, none⟩ (.slice (some ⟨g, 0, none⟩) (L.length + 1) cap8)) B (f.add (.mk nm ats [] x) :: fs) none X' ov (qs.reverse ++ [(b, o)]) c d t ∧
      (∀ k, k < W.heap.size → X' k → X k) ∧ KeptX X W (((((w8.setCell ⟨g, L.length * 4, none⟩ (.string (bs nm))).setCell ⟨g, L.length * 4 + 1, none⟩ ya).setCell ⟨g, L.length * 4 + 2, none⟩ (.slice none 0 0)).setCell ⟨g, L.length * 4 + 3, none⟩ (.string (bs x))).setCell ⟨b, o + 2, none⟩ (.slice (some ⟨g, 0, none⟩) (L.length + 1) cap8)) ∧
      Below B W (((((w8.setCell ⟨g, L.length * 4, none⟩ (.string (bs nm))).setCell ⟨g, L.length * 4 + 1, none⟩ ya).setCell ⟨g, L.length * 4 + 2, none⟩ (.slice none 0 0)).setCell ⟨g, L.length * 4 + 3, none⟩ (.string (bs x))).setCell ⟨b, o + 2, none⟩ (.slice (some ⟨g, 0, none⟩) (L.length + 1) cap8)) := by
  have hsz := hb1.size
  have inn1 : Inner 54 X W1 b o f L av (.slice ao L.length cap) := inn.keep (KeptX.below hb1) (fun _ _ h => h) (fun j _ => hb1.cell (p := ⟨b, o + j, none⟩) (h.xsize b inn.xb)) (fun k hk => hb1.block k (h.xsize k (inn.blk k hk))) (fun k hk => hk.elim (fun e => e ▸ inn.xb) (fun e => inn.blk k e))
  have up1 : Up 54 B X W1 b o fs qs := up.keep (KeptX.below hb1) (fun _ _ h => h) (fun _ _ _ h => h) (fun _ j _ => hb1.cell (p := ⟨B, j, none⟩) h.lt) (fun k n hk _ hr j => hb1.cell (p := ⟨k, j, none⟩) hr.lt) (fun j _ => hb1.cell (p := ⟨b, j, none⟩) (h.xsize b inn.xb)) (fun k n _ _ hr => hr.kept (hb1.block k hr.lt))
  have h1 := h.below hb1
  have hk1 : KeptX X W W1 := KeptX.below hb1
  have hy1 : SliceX 2 atC X W1 ya ats := hy.keep hk1 (fun _ _ h => h)
  have hg4 := grown_set4 (m := L.length * 4) hg hat (.string (bs nm)) ya (.slice none 0 0) (.string (bs x))
  have hbx : ∀ k, (Value.slice ao L.length cap).ownBlock = some k → X k := inn.blk
  have hloc : (Value.slice (some ⟨g, 0, none⟩) (L.length + 1) cap8).ownBlock = (Value.slice ao L.length cap).ownBlock ∨ ∀ k, (Value.slice (some ⟨g, 0, none⟩) (L.length + 1) cap8).ownBlock = some k → W1.heap.size ≤ k := by
    rcases hat with e | e
    · exact .inl (by rw [e]; rfl)
    · exact .inr fun k hk => by cases hk; exact Nat.le_of_eq e.symm
  have hnode : NodeX X W1 (.mk nm ats [] x) ya (.slice none 0 0) := .mk [] hy1 rfl SliceX.nil (by simp)
  obtain ⟨r1, r2, r3⟩ := Core.kid node_ptr h1 inn1 up1 (y := ((.mk nm ats [] x : Tr), ya, .slice none 0 0)) hnode (ho.nodeSt nm ats x ya) hg4 hloc
  refine ⟨_, r1, r2, r3, fun k hk hx => ?_, ?_, ?_⟩
  · exact Swap.old (w := W1) hbx hloc (Nat.lt_of_lt_of_le hk hsz) hx
  · exact hk1.trans ((KeptX.grown hg4 hbx).trans (keptX_set _ b (o + 2) _ inn.xb))
  · refine below_set ?_ b (o + 2) _ up.ge
    have hB1 : Below B W W1 := hb1.mono (Nat.le_of_lt h.lt)
    refine ⟨hg4.os.trans hB1.os, hg4.tape.trans hB1.tape, hg4.output.trans hB1.output, Nat.le_trans hB1.size hg4.size, fun k hk => (hg4.block k ?_ (fun e => ?_)).trans (hB1.block k hk)⟩
    · have := h.lt; omega
    · have := (inn.own.rowOf e.symm).1; have := up.ge; omega

/-- What a region that appends a node needs of the world behind the append. -/
theorem kid_facts {W1 w8 : World} {b o g cap8 : Nat} {L : List TrV} {v : Value} {row : Option Nat} (hbl : b < W1.heap.size) (c2 : W1.cell? ⟨b, o + 2, none⟩ = some v) (f2 : W1.frozen? ⟨b, o + 2, none⟩ = false) (hrow : ∀ k, row = some k → b < k)
    (ho : Owns (b + 1) 54 4 trC w8 (.slice (some ⟨g, 0, none⟩) (L.length + 1) cap8) (L ++ [zeroNode])) (hg : W1.grownBy w8 row) :
    b < w8.heap.size ∧ w8.cell? ⟨b, o + 2, none⟩ = some v ∧ w8.frozen? ⟨b, o + 2, none⟩ = false ∧ b ≠ g ∧ g < w8.heap.size ∧ L.length + 1 ≤ cap8 ∧ cap8 ≤ maxLen := by
  have hb : w8.heap[b]? = W1.heap[b]? := hg.block b hbl (fun e => by have := hrow b e.symm; omega)
  obtain ⟨-, h2, h3, -, h5, h6⟩ := ho.row
  exact ⟨Nat.lt_of_lt_of_le hbl hg.size, (World.cell?_of_block (by exact hb)).trans c2, (World.frozen?_of_block (by exact hb)).trans f2, by omega, h3.lt, by simpa using h5, h6⟩

set_option maxRecDepth 100000 in
set_option maxHeartbeats 8000000 in
theorem lettersB_full (w : World) (B n : Nat) (f : Fr) (fs : List Fr) (r : Option Tr) (c : Nat) (X : Nat → Prop) (ov : Value) (ps : List (Nat × Nat)) (s : Bs) (h : BOf lo w B ⟨f :: fs, r, c, false⟩ n X ov ps) (hs0 : s ≠ []) (hn : n ≤ 1000000) (hc : 4096 < c + 1) :
    Calls Try.prog 97 #[.pointer (some ⟨B, 0, none⟩), .string (bs s)] w (StepOut lo w B (n + 1) (lettersB ⟨f :: fs, r, c, false⟩ s)) := by
  have hlt := h.core.lt
  have c4 := h.core.c4
  obtain ⟨ao, cap, hov⟩ := h.shape
  rw [hov] at c4
  simp only [List.length_cons] at c4
  obtain ⟨b, o, L, av, ao2, cap2, qs, -, hps, -⟩ := h.core.data
  have HT := Lib.hid (top_any (by have := h.core; rw [hps] at this; exact this))
  have hn1 : ((fs.length + 1 : Nat) : Int) ≠ 0 := by omega
  have H := Lib.hid h
  have hcn : c ≤ n := h.cn
  clear h hov
  have he : (bs s : S).toList.isEmpty = false := by rw [empty_data, bs_size]; simpa using hs0
  have hl : lettersB ⟨f :: fs, r, c, false⟩ s = .bad 2 := by
    cases s with
    | nil => exact absurd rfl hs0
    | cons x s => simp [lettersB, hc]
  rw [hl]
  have hd : decide (c + 1 ≤ 4096) = false := by rw [decide_eq_false_iff_not]; omega
  generalize (bs s : S) = S1 at *
  clear hl
  go_enter Try.func97, Try.ntmps97
  go_wp2_with fail
  refine HT.out.mono ?_
  rintro e w' ⟨rfl, k, rfl⟩
  have c7 := (H.out.drewN k).core.c7
  have HO := Lib.hid (one_any (w.drewN k) B c (H.out.drewN k).core.c5 ((H.out.drewN k).core.f 5) (by omega))
  rw [hd] at HO
  have hBB : Below B w (w.drewN k) := belowN (Below.refl _ _) k
  have HBW := Lib.hid hBB
  have HGW := Lib.hid (grownN w k (some B))
  have hltk : B < (w.drewN k).heap.size := hlt
  clear hBB hlt HT c4 hd
  generalize w.drewN k = W at *
  go_wp2_with fail
  refine HO.out.mono ?_
  rintro e w' ⟨rfl, rfl⟩
  go_wp2
  go_ret
  exact ⟨rfl, HGW.out.trans (setCell_grown _ _ _ _), below_set HBW.out B _ _ (Nat.le_refl _)⟩

set_option maxRecDepth 100000 in
set_option maxHeartbeats 8000000 in
theorem lettersB_add (w : World) (B n : Nat) (f : Fr) (fs : List Fr) (r : Option Tr) (c : Nat) (X : Nat → Prop) (ov : Value) (ps : List (Nat × Nat)) (s : Bs) (h : BOf lo w B ⟨f :: fs, r, c, false⟩ n X ov ps) (hs0 : s ≠ []) (hs : s.length ≤ 2000000) (hn : n ≤ 1000000) (hc : ¬ 4096 < c + 1) :
    Calls Try.prog 97 #[.pointer (some ⟨B, 0, none⟩), .string (bs s)] w (StepOut lo w B (n + 1) (lettersB ⟨f :: fs, r, c, false⟩ s)) := by
  have hlt := h.core.lt
  have c4 := h.core.c4
  obtain ⟨ao, cap, hov⟩ := h.shape
  rw [hov] at c4
  simp only [List.length_cons] at c4
  obtain ⟨b, o, L0, av0, ao0, cap0, qs0, -, hps, -⟩ := h.core.data
  have HT := Lib.hid (top_any (by have := h.core; rw [hps] at this; exact this))
  have hn1 : ((fs.length + 1 : Nat) : Int) ≠ 0 := by omega
  have H := Lib.hid h
  have hcn : c ≤ n := h.cn
  clear h hov
  have he : (bs s : S).toList.isEmpty = false := by rw [empty_data, bs_size]; simpa using hs0
  have hl : lettersB ⟨f :: fs, r, c, false⟩ s = .ok ⟨f.add (.mk [] [] [] s) :: fs, r, c + 1, true⟩ := by
    cases s with
    | nil => exact absurd rfl hs0
    | cons x s => simp [lettersB, hc]
  rw [hl]
  have hd : decide (c + 1 ≤ 4096) = true := by rw [decide_eq_true_iff]; omega
  obtain ⟨S1, hS1⟩ : ∃ S1 : S, S1 = bs s := ⟨_, rfl⟩
  have HS1 := Lib.hid hS1
  rw [← hS1] at he ⊢
  clear hl hS1
  go_enter Try.func97, Try.ntmps97
  go_wp2_with fail
  refine HT.out.mono ?_
  rintro e w' ⟨rfl, k, rfl⟩
  have c7 := (H.out.drewN k).core.c7
  have HO := Lib.hid (one_any (w.drewN k) B c (H.out.drewN k).core.c5 ((H.out.drewN k).core.f 5) (by omega))
  rw [hd] at HO
  have hBB : Below B w (w.drewN k) := belowN (Below.refl _ _) k
  have HBW := Lib.hid hBB
  have hltk : B < (w.drewN k).heap.size := hlt
  have hC := (H.out.drewN k).core.set5 (.int .i64 (c + 1 : Nat))
  have HC := Lib.hid hC
  clear hBB hlt HT c4 hd hC
  generalize w.drewN k = W at *
  go_wp2_with fail
  refine HO.out.mono ?_
  rintro e w' ⟨rfl, rfl⟩
  have HBW2 := Lib.hid (below_set HBW.out B 5 (.int .i64 (c + 1 : Nat)) (Nat.le_refl _))
  have hltk2 : B < (W.setCell ⟨B, 5, none⟩ (.int .i64 (c + 1 : Nat))).heap.size := by simpa [World.setCell] using hltk
  clear HBW hltk HO c7
  generalize W.setCell ⟨B, 5, none⟩ (.int .i64 (c + 1 : Nat)) = W2 at *
  obtain ⟨b', o', L, av, ao2, cap2, qs, hr, hps', inn, up, hbl, hBb, hbo, -, q2, f2⟩ := HC.out.data
  obtain ⟨rfl, rfl⟩ : b = b' ∧ o = o' := by
    rw [hps] at hps'
    have := (List.append_inj' hps' rfl).2
    simpa using this
  have hcr := HC.out
  subst hr
  rw [hps'] at hcr
  have hLn : L.length ≤ n := by
    have h1 := H.out.kd f (by simp)
    rw [← inn.is, List.length_map] at h1; exact h1
  have hLi : ((L.length : Int) : Int) < (L.length : Int) + 1 := by omega
  have hL0 : (0 : Int) ≤ (L.length : Int) := by omega
  have HK := Lib.hid fun (W1 : World) (hb1 : Below W2.heap.size W2 W1) => @Core.step_kid lo W2 B f fs X ov _ _ _ b o L av ao2 cap2 qs hcr inn up W1 hb1
  have HKB : Hid (∀ k, (Value.slice ao2 L.length cap2).ownBlock = some k → b < k) := fun k hk => (inn.own.rowOf hk).1
  have HOW := Lib.hid inn.own
  clear hps hps' hcr inn up HC
  have hown4 := Lib.hid ((HOW.out.alloc (.cells (trC zeroNode).toArray 54)).drew)
  have hbl4 : Hid (b < ((W2.alloc (.cells (trC zeroNode).toArray 54)).drew).heap.size) := by show _ < _; simp; omega
  have hb4 : Hid (Below W2.heap.size W2 ((W2.alloc (.cells (trC zeroNode).toArray 54)).drew)) := belowN ((Below.refl _ W2).alloc (Nat.le_refl _) _) 1
  have HNW : Hid (∀ j u, (trC zeroNode)[j]? = some u → ((W2.alloc (.cells (trC zeroNode).toArray 54)).drew).cell? ⟨W2.heap.size, j, none⟩ = some u) := fun j u hu => (Box.new W2 (trC zeroNode) 54 _ rfl).cell j u hu
  have hbs : Hid (b + 1 ≤ ((W2.alloc (.cells (trC zeroNode).toArray 54)).drew).heap.size) := by show _ ≤ _; simp; omega
  have hsz4 : Hid (((W2.alloc (.cells (trC zeroNode).toArray 54)).drew).heap.size = W2.heap.size + 1) := by show _ = _; simp
  have hbl5 : Hid ((L.length + 1) * 80 ≤ 140737488355328) := by show _ ≤ _; omega
  have HQ2 := Lib.hid (((hb4.out.cell (p := ⟨b, o + 2, none⟩) hbl).trans q2))
  have HF2 := Lib.hid (((hb4.out.frozen (p := ⟨b, o + 2, none⟩) hbl).trans f2))
  go_wp2
  go_region_law (first | (refine step_append_one rfl (.tmp 20) (.tmp 24) 52 rfl (b + 1) 54 Try.underlying52 info_node rfl (by decide) trC_len (.slice ao2 L.length cap2) L (by simp [Act.eval, Act.put]) hown4.out W2.heap.size zeroNode (by simp [Act.eval, Act.put]) HNW.out zeroNode_one hbl5.out (by decide) hbs.out (W2.heap.size + 1) hsz4.out ?_; intro g8 cap8 w8 hown8 hgrow8 hat8 hlt8; obtain ⟨x1, x2, x3, x4, x5, x6, x7⟩ := kid_facts hbl4.out HQ2.out HF2.out HKB.out hown8 hgrow8; obtain ⟨y0, z0, t0⟩ := hown8.nodeCells 0 (by decide); obtain ⟨y1, z1, t1⟩ := hown8.nodeCells 1 (by decide); obtain ⟨y2, z2, t2⟩ := hown8.nodeCells 2 (by decide); obtain ⟨y3, z3, t3⟩ := hown8.nodeCells 3 (by decide); rw [Nat.add_zero] at y0 t0; have ho9 := Lib.hid hown8; have hg9 := Lib.hid hgrow8; have ha9 := Lib.hid hat8; clear hown8 hgrow8 hat8))
  all_goals
    obtain ⟨X', -, -, r3, -, -, r6⟩ := HK.out _ hb4.out ho9.out hg9.out (by rw [hsz4.out]; exact ha9.out) [] [] s (.slice none 0 0) SliceX.nil
    rw [← HS1.out] at r3 r6
    have hsw : ∀ (W : World) (j : Nat) (u v : Value), (W.setCell ⟨b, o + 2, none⟩ u).setCell ⟨g8, j, none⟩ v = (W.setCell ⟨g8, j, none⟩ v).setCell ⟨b, o + 2, none⟩ u := fun W j u v => setCell_comm W _ _ _ _ x4
    try simp only [hsw]
    obtain ⟨W9, hW9⟩ : ∃ W9, W9 = ((((w8.setCell ⟨g8, L.length * 4, none⟩ (.string ⟨#[]⟩)).setCell ⟨g8, L.length * 4 + 1, none⟩ (.slice none 0 0)).setCell ⟨g8, L.length * 4 + 2, none⟩ (.slice none 0 0)).setCell ⟨g8, L.length * 4 + 3, none⟩ (.string S1)).setCell ⟨b, o + 2, none⟩ (.slice (some ⟨g8, 0, none⟩) (L.length + 1) cap8) := ⟨_, rfl⟩
    rw [← hW9]
    have r3' : Core 54 124 lo W9 B (f.add (.mk [] [] [] s) :: fs) none X' ov (qs.reverse ++ [(b, o)]) (.int .i64 (c + 1 : Nat)) (.bool (none : Option Tr).isSome) (.bool false) := by rw [hW9]; exact r3
    have r6' : Below B W2 W9 := by rw [hW9]; exact r6
    clear r3 r6 hW9 hsw x1 x2 x3 x4 x5 x6 x7 y0 z0 t0 y1 z1 t1 y2 z2 t2 y3 z3 t3 ho9 hg9 ha9 q2 f2 hlt8
    have c7 := r3'.c7
    have f7 := r3'.f 7
    have hlt9 := r3'.lt
    have HR := Lib.hid r3'
    have HR6 := Lib.hid r6'
    clear r3' r6'
    go_wp2
    go_ret
    refine ⟨rfl, ⟨X', ov, _, HR.out.set7 (.bool true), fun _ => ⟨_, _, f.kids, .mk [] [] [] s, rfl, rfl, ?_⟩, fun f' hf' => ?_, ?_, ?_⟩, below_set (HBW2.out.trans HR6.out) B 7 _ (Nat.le_refl _)⟩
    · show s.length ≤ _
      rw [tmax_succ]; omega
    · rcases List.mem_cons.1 hf' with rfl | hf'
      · have := H.out.kd f (by simp)
        simp [Fr.add]; omega
      · have := H.out.kd f' (by simp [hf']); omega
    · show c + 1 ≤ n + 1
      omega
    · have := H.out.sn
      simp at this ⊢; omega

theorem lettersB_any (w : World) (B n : Nat) (st : BSt) (X : Nat → Prop) (ov : Value) (ps : List (Nat × Nat)) (s : Bs) (h : BOf lo w B st n X ov ps) (hs : s.length ≤ 2000000) (hn : n ≤ 1000000) :
    Calls Try.prog 97 #[.pointer (some ⟨B, 0, none⟩), .string (bs s)] w (StepOut lo w B (n + 1) (lettersB st s)) := by
  obtain ⟨stack, r, c, tx⟩ := st
  cases stack with
  | nil => exact lettersB_out w B n r c tx X ov ps s h hs
  | cons f fs =>
    by_cases h0 : s = []
    · subst h0
      exact lettersB_none w B n f fs r c tx X ov ps h
    · cases tx with
      | true => exact lettersB_text w B n f fs r c X ov ps s h h0 hs hn
      | false =>
        by_cases hc : 4096 < c + 1
        · exact lettersB_full w B n f fs r c X ov ps s h h0 hn hc
        · exact lettersB_add w B n f fs r c X ov ps s h h0 hs hn hc

end Go.Proofs.Ytpchljiiappmnaa
