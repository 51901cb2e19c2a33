/- The walk of the document's reader's Next; the conditions stand in the theorem. -/
import Derived.Test.YtpchljiiappmnaaG33
import Derived.Test.YtpchljiiappmnaaG4
import Derived.Test.YtpchljiiappmnaaG19
import Derived.Test.YtpchljiiappmnaaG12
namespace Go.Proofs.Ytpchljiiappmnaa
open Go Go.RowKit

set_option maxHeartbeats 1000000 in
theorem rattrs_bad (b : Nat) (s : S) (l : Bs) (x o : Int) (w : World) (h : RR w b s l x o) (hx : x ≠ 0) :
    Calls Try.prog 94 #[.pointer (some ⟨b, 0, none⟩)] w (RGo (.slice none 0 0) b s l x o w) := by
  have c2 := h.c2
  have hlt := h.box.lt
  have e0 : (x == 0) = false := beq_eq_false_iff_ne.2 hx
  have HR := Lib.hid h
  clear h hx
  go_enter Try.func94, Try.ntmps94
  go_wp2
  go_loopw [3] (fun v wr => v = .slice none 0 0 ∧ w = wr) (fun _ _ => 0)
  case atStart => exact ⟨rfl, rfl⟩
  case round =>
    obtain ⟨rfl, rfl⟩ := hrel
    go_wp2
    go_ret
    exact ⟨rfl, HR.out, World.grownBy.refl _ _⟩

theorem size_tok : (Try.prog.info? 34).map (·.size) = some 7 := by kernel_rfl
def zero7 : List Value := [.int .i64 0, .string ⟨#[]⟩, .slice none 0 0, .string ⟨#[]⟩, .int .i64 0, .int .i64 0, .int .i64 0]
/-- A token's cells. -/
def tkV (k : Int) (n : S) (av : Value) (x : S) (o li co : Nat) : List Value := [.int .i64 k, .string n, av, .string x, .int .i64 o, .int .i64 li, .int .i64 co]
/-- The post of Next. -/
def ROutT (b : Nat) (s : S) (w : World) (o li co : Nat) : Res Tk → Ending → World → Prop
  | .ok t r => fun e w' => ∃ av, RGo (.agg (tkV t.kind (bs t.name) av (bs t.text) o li co).toArray) b s r 0 0 w e w' ∧ Owns w.heap.size 43 2 atC w' av t.attrs
  | .bad e r => fun x w' => ∃ k n ao m c tx l', RGo (.agg (tkV k n (.slice ao m c) tx o li co).toArray) b s l' e (pos s r : Nat) w x w'

/-- Where Next stands: its two variables. -/
structure NxS (w W : World) (b : Nat) (s : S) (l : Bs) (x o : Int) (cs : List Value) : Prop where
  rd : RR W b s l x o
  grown : w.grownBy W (some b)
  x2 : Box W w.heap.size zero7
  x3 : Box W (w.heap.size + 1) cs
  lt : b < w.heap.size

theorem RR.keep {w w' : World} {b r : Nat} {s : S} {l : Bs} {x o : Int} (h : RR w b s l x o) (hg : w.grownBy w' (some r)) (hne : b ≠ r) : RR w' b s l x o := ⟨h.box.grownB hg hne, h.suf⟩
theorem grown_other {w W W' : World} {r : Option Nat} {N : Nat} (h : w.grownBy W r) (hg : W.grownBy W' (some N)) (hN : w.heap.size ≤ N) : w.grownBy W' r :=
  ⟨hg.os.trans h.os, hg.tape.trans h.tape, hg.output.trans h.output, Nat.le_trans h.size hg.size, fun k hk hne => (hg.block k (Nat.lt_of_lt_of_le hk h.size) (by intro e; cases e; omega)).trans (h.block k hk hne)⟩
theorem NxS.made {w : World} {b : Nat} {s : S} {l : Bs} (h : RR w b s l 0 0) (cs : List Value) (T U : TypeId) : NxS w ((w.alloc (.cells zero7.toArray T)).alloc (.cells cs.toArray U)) b s l 0 0 cs :=
  ⟨(h.below ((Below.refl _ _).alloc (Nat.le_refl _) _)).below ((Below.refl _ _).alloc (Nat.le_refl _) _), (World.grownBy_alloc _ _ _).trans (World.grownBy_alloc _ _ _), (Box.new w _ _ _ rfl).alloc _, Box.new _ _ _ _ (by simp), h.box.lt⟩
theorem NxS.drewN {w W : World} {b : Nat} {s : S} {l : Bs} {x o : Int} {cs : List Value} (h : NxS w W b s l x o cs) (n : Nat) : NxS w (W.drewN n) b s l x o cs :=
  ⟨h.rd.drewN n, h.grown.trans (grownN _ _ _), h.x2.drewN n, h.x3.drewN n, h.lt⟩
theorem NxS.call {w W W' : World} {b : Nat} {s : S} {l l' : Bs} {x o x' o' : Int} {cs : List Value} (h : NxS w W b s l x o cs) (hR : RR W' b s l' x' o') (hg : W.grownBy W' (some b)) : NxS w W' b s l' x' o' cs :=
  ⟨hR, h.grown.trans hg, h.x2.grownB hg (by have := h.lt; omega), h.x3.grownB hg (by have := h.lt; omega), h.lt⟩
theorem NxS.set {w W : World} {b : Nat} {s : S} {l : Bs} {x o : Int} {cs : List Value} (h : NxS w W b s l x o cs) (j : Nat) (v : Value) : NxS w (W.setCell ⟨w.heap.size + 1, j, none⟩ v) b s l x o (cs.set j v) :=
  ⟨h.rd.keep (setCell_grown _ _ _ _) (by have := h.lt; omega), grown_other h.grown (setCell_grown _ _ _ _) (by omega), h.x2.grownB (setCell_grown _ _ _ _) (by omega), h.x3.set j v, h.lt⟩
theorem NxS.move {w W : World} {b : Nat} {s : S} {l r : Bs} {x o : Int} {cs : List Value} (h : NxS w W b s l x o cs) (hr : r <:+ s.data.toList) {v : Value} (hv : v = .int .i64 (pos s r : Nat)) : NxS w (W.setCell ⟨b, 1, none⟩ v) b s r x o cs :=
  h.call (h.rd.move hr hv) (setCell_grown _ _ _ _)
theorem NxS.done {w W W' : World} {b : Nat} {s : S} {l : Bs} {x o : Int} {cs : List Value} (h : NxS w W b s l x o cs) (hg : W.grownBy W' (some w.heap.size)) : RR W' b s l x o ∧ w.grownBy W' (some b) :=
  ⟨h.rd.keep hg (by have := h.lt; omega), grown_other h.grown hg (Nat.le_refl _)⟩

theorem isHead_at (l : Bs) : isHead l = (sHead.isPrefixOf l && (atV l 5 == 63 || cBlank (atV l 5))) := by
  unfold isHead atV
  cases h : l[5]? with
  | none => simp [cBlank]
  | some c =>
    simp only [Option.getD_some]
    congr 1
    exact Bool.or_comm _ _
theorem atV_zero (l : Bs) : atV l 0 = l.head?.getD 0 := by cases l <;> rfl
theorem pre_drop {t l : Bs} (h : t.isPrefixOf l = true) : t.length ≤ l.length := (List.isPrefixOf_iff_prefix.1 h).length_le


theorem tokenR_letters {first : Bool} {l : Bs} (h1 : sNote.isPrefixOf l = false) (h2 : sData.isPrefixOf l = false) (h3 : ¬ (first && isHead l) = true) (h : atV l 0 ≠ 60) : tokenR first l = (letters 60 l).map fun t => ⟨4, [], [], t⟩ := by
  simp only [tokenR]; rw [if_neg (by rw [h1]; simp), if_neg (by rw [h2]; simp), if_neg h3]
  cases l with
  | nil => rfl
  | cons c l =>
    have hc : c ≠ 60 := h
    split
    · rename_i h; cases h; exact absurd rfl hc
    · rename_i h; cases h; exact absurd rfl hc
    · rfl
theorem tokenR_close {first : Bool} {l : Bs} (h1 : sNote.isPrefixOf (60 :: 47 :: l) = false) (h2 : sData.isPrefixOf (60 :: 47 :: l) = false) (h3 : ¬ (first && isHead (60 :: 47 :: l)) = true) : tokenR first (60 :: 47 :: l) = closeR l := by
  simp only [tokenR]; rw [if_neg (by rw [h1]; simp), if_neg (by rw [h2]; simp), if_neg h3]
theorem tokenR_open {first : Bool} {l : Bs} (h1 : sNote.isPrefixOf (60 :: l) = false) (h2 : sData.isPrefixOf (60 :: l) = false) (h3 : ¬ (first && isHead (60 :: l)) = true) (h : atV l 0 ≠ 47) : tokenR first (60 :: l) = openR l := by
  simp only [tokenR]; rw [if_neg (by rw [h1]; simp), if_neg (by rw [h2]; simp), if_neg h3]
  cases l with
  | nil => rfl
  | cons c l =>
    have hc : c ≠ 47 := h
    split
    · rename_i h; cases h; exact absurd rfl hc
    · rename_i h; cases h; rfl
    · rename_i h; exact absurd rfl (h _)
theorem openR_end {r : Bs} {nm : Bs} {ats : List At2} (h : atV r 0 ≠ 47) : (match r with
    | 47 :: r'' => (wantC 62 r'').map fun _ => (⟨2, nm, ats, []⟩ : Tk)
    | _ => (wantC 62 r).map fun _ => ⟨1, nm, ats, []⟩) = (wantC 62 r).map fun _ => ⟨1, nm, ats, []⟩ := by
  split
  · exact absurd rfl h
  · rfl
theorem attrR_bad_ne {acc : List At2} {l r : Bs} {x : Int} (h : attrR acc l = .bad x r) : x ≠ 0 := by
  unfold attrR at h
  cases hn : nameR 10 l with
  | bad e r1 => rw [hn] at h; cases h; exact nameR_bad_ne (by decide) hn
  | ok nm r1 =>
    rw [hn] at h
    simp only [Res.bind] at h
    split at h
    · cases h; decide
    · cases hw : wantC 61 (blanks r1) with
      | bad e r2 => rw [hw] at h; cases h; exact wantC_bad_ne hw
      | ok u r2 =>
        rw [hw] at h
        simp only at h
        cases hv : valueR (blanks r2) with
        | ok v r3 => rw [hv] at h; cases h
        | bad e r3 =>
          rw [hv] at h; cases h
          generalize blanks r2 = l6 at hv
          cases l6 with
          | nil => cases hv; decide
          | cons q l7 =>
            simp only [valueR] at hv
            split at hv
            · cases hl : letters q l7 with
              | bad e4 r4 => rw [hl] at hv; cases hv; exact lettersGo_bad_ne hl
              | ok t r4 =>
                rw [hl] at hv
                simp only [Res.bind] at hv
                cases r4 with
                | nil => cases hv; decide
                | cons y r5 => cases hv
            · cases hv; decide
theorem attrsGo_bad_ne : ∀ {f : Nat} {acc : List At2} {l r : Bs} {x : Int}, attrsGo f acc l = .bad x r → x ≠ 0
  | 0, acc, l, r, x, h => by cases h; decide
  | f + 1, acc, l, r, x, h => by
    simp only [attrsGo] at h
    split at h
    · cases h
    · cases ha : attrR acc (blanks l) with
      | ok a r1 => rw [ha] at h; exact attrsGo_bad_ne h
      | bad e r1 => rw [ha] at h; cases h; exact attrR_bad_ne ha
theorem attrsR_bad_ne {l r : Bs} {x : Int} (h : attrsR l = .bad x r) : x ≠ 0 := attrsGo_bad_ne h

set_option maxRecDepth 100000 in
set_option maxHeartbeats 16000000 in
theorem rnext_any (b : Nat) (s : S) (l : Bs) (first : Bool) (w : World) (h : RR w b s l 0 0) (hs : s.size ≤ 1000000) (hf : first = decide (pos s l = 0)) :
    Calls Try.prog 56 #[.pointer (some ⟨b, 0, none⟩)] w (ROutT b s w (pos s l) (lineCol (s.data.toList.take (pos s l))).1 (lineCol (s.data.toList.take (pos s l))).2 (tokenR first l)) := by
  have hpa := pos_add h.suf
  have HAT : Hid (∀ (W : World) n, Calls Try.prog 24 #[.string s, .int .i64 (pos s l : Nat)] (W.drewN n) fun e w'' => e = .returned (.tuple #[.int .i64 (lineCol (s.data.toList.take (pos s l))).1, .int .i64 (lineCol (s.data.toList.take (pos s l))).2]) ∧ ∃ m, w'' = W.drewN m) := fun W n => quietS (refAt_any s (pos s l) (W.drewN n) (by omega) hs)
  generalize (lineCol (s.data.toList.take (pos s l))).1 = li at *
  generalize (lineCol (s.data.toList.take (pos s l))).2 = co at *
  have c0 := h.c0
  have c1 := h.c1
  have hlt := h.box.lt
  have HR := Lib.hid h
  clear h
  generalize hpp : pos s l = p at *
  have HPP := Lib.hid hpp
  have HF := Lib.hid hf
  clear hpp hf
  go_enter Try.func56, Try.ntmps56
  go_upto_region 2 with fail
  refine wp_world ?_
  intro W0 hW0
  have hN0 : NxS w W0 b s l 0 0 [.int .i64 0, .string ⟨#[]⟩, .slice none 0 0, .string ⟨#[]⟩, .int .i64 p, .int .i64 0, .int .i64 0] := by rw [hW0]; exact NxS.made HR.out _ _ _
  clear hW0 c0 c1 hlt
  have c0 := hN0.rd.c0
  have c1 := hN0.rd.c1
  rw [HPP.out] at c1
  have hlt := hN0.rd.box.lt
  have HN0 := Lib.hid hN0
  clear hN0
  go_quiet ((go_at_call 24; exact HAT.out _ _))
  have a5 := HN0.out.x3.cell 5 _ rfl
  have a6 := HN0.out.x3.cell 6 _ rfl
  have f5 := HN0.out.x3.free 5
  have f6 := HN0.out.x3.free 6
  have l3 := HN0.out.x3.lt
  clear c0 c1 hlt
  go_upto_region 5 with fail
  refine wp_world ?_
  intro W1 hW1
  have hN1 : NxS w W1 b s l 0 0 [.int .i64 0, .string ⟨#[]⟩, .slice none 0 0, .string ⟨#[]⟩, .int .i64 p, .int .i64 li, .int .i64 co] := by rw [hW1]; exact ((HN0.out.drewN _).set 5 _).set 6 _
  clear hW1
  clear a5 a6 f5 f6 l3 HAT
  have HN1 := Lib.hid hN1
  have HBG : Hid (∀ (t : S) (W : World), RR W b s l 0 0 → Calls Try.prog 87 #[.pointer (some ⟨b, 0, none⟩), .string t] W (Qt (.bool (t.data.toList.isPrefixOf l)) W)) := fun t W hW => rbegins_any b s t l 0 0 W hW hs
  clear hN1 HN0
  cases hq1 : sNote.isPrefixOf l
  rotate_left
  · have Hq1 := Lib.hid hq1
    clear hq1
    have HB : Hid (Calls Try.prog 87 #[.pointer (some ⟨b, 0, none⟩), .string ⟨#[60, 33, 45, 45]⟩] W1 (Qt (.bool true) W1)) := by
      have := HBG.out ⟨#[60, 33, 45, 45]⟩ W1 HN1.out.rd
      rw [show (⟨#[60, 33, 45, 45]⟩ : S).data.toList.isPrefixOf l = true from Hq1.out] at this
      exact this
    go_wp2_with fail
    refine HB.out.mono ?_
    rintro e W2 ⟨rfl, nW2, hW2⟩
    have HN2 : Hid (NxS w W2 b s l 0 0 [.int .i64 0, .string ⟨#[]⟩, .slice none 0 0, .string ⟨#[]⟩, .int .i64 p, .int .i64 li, .int .i64 co]) := by rw [hW2]; exact HN1.out.drewN _
    clear hW2 HB
    have a0 := HN2.out.x3.cell 0 _ rfl
    have f0 := HN2.out.x3.free 0
    have l3 := HN2.out.x3.lt
    go_wp2_with fail
    refine Calls.world ?_
    intro Wp hWp
    have hNp : NxS w Wp b s l 0 0 [.int .i64 5, .string ⟨#[]⟩, .slice none 0 0, .string ⟨#[]⟩, .int .i64 p, .int .i64 li, .int .i64 co] := by rw [hWp]; exact HN2.out.set 0 _
    clear hWp a0 f0 l3
    have hcall := rplain_any b s ⟨#[45, 45, 62]⟩ l 4 Wp hNp.rd hs (pre_drop Hq1.out) (by decide)
    have HNp := Lib.hid hNp
    clear hNp
    have HO : Hid (tokenR first l = (plain [45, 45, 62] (l.drop 4)).map fun t => ⟨5, [], [], t⟩) := by
      show _ = _
      simp only [tokenR]; rw [if_pos Hq1.out]; rfl
    cases hpl : plain [45, 45, 62] (l.drop 4) with
    | bad x r1 =>
      rw [show plain (⟨#[45, 45, 62]⟩ : S).data.toList (l.drop 4) = .bad x r1 from hpl] at hcall
      have HPL := Lib.hid hpl
      clear hpl
      refine hcall.mono ?_
      intro e Wq hO
      obtain ⟨l2, rfl, hRq, hgq⟩ : ∃ l', RGo (.string ⟨#[]⟩) b s l' x (pos s r1 : Nat) Wp e Wq := hO
      have hNq := HNp.out.call hRq hgq
      have a3 := hNq.x3.cell 3 _ rfl
      have f3 := hNq.x3.free 3
      have l3 := hNq.x3.lt
      have HNq := Lib.hid hNq
      clear hNq hRq hgq hcall
      go_upto_region 8 with fail
      refine wp_world ?_
      intro Wr hWr
      have hNr : NxS w Wr b s l2 x (pos s r1 : Nat) [.int .i64 5, .string ⟨#[]⟩, .slice none 0 0, .string ⟨#[]⟩, .int .i64 p, .int .i64 li, .int .i64 co] := by rw [hWr]; exact HNq.out.set 3 _
      clear hWr
      clear a3 f3 l3
      have z0 := hNr.x3.cell 0 _ rfl
      have z1 := hNr.x3.cell 1 _ rfl
      have z2 := hNr.x3.cell 2 _ rfl
      have z3 := hNr.x3.cell 3 _ rfl
      have z4 := hNr.x3.cell 4 _ rfl
      have z5 := hNr.x3.cell 5 _ rfl
      have z6 := hNr.x3.cell 6 _ rfl
      have l3 := hNr.x3.lt
      have HNF := Lib.hid hNr
      clear hNr
      go_wp2_with ((with_reducible show wpList _ _ _ (Oper.mk none (Op.store 34 (.tmp 2) (.tmp 36)) _ _ _ _ :: _) _ _); refine wpList_store_box rfl 34 (.tmp 2) (.tmp 36) rfl w.heap.size zero7 [.int .i64 5, .string ⟨#[]⟩, .slice none 0 0, .string ⟨#[]⟩, .int .i64 p, .int .i64 li, .int .i64 co] rfl rfl HNF.out.x2 rfl size_tok (by simp [Value.oneCell']) ?_; intro W9 v9 hg9)
      obtain ⟨hR9, hG9⟩ := HNF.out.done hg9
      have HR9 := Lib.hid hR9
      have HG9 := Lib.hid hG9
      have y0 := v9.cell 0 _ rfl
      have y1 := v9.cell 1 _ rfl
      have y2 := v9.cell 2 _ rfl
      have y3 := v9.cell 3 _ rfl
      have y4 := v9.cell 4 _ rfl
      have y5 := v9.cell 5 _ rfl
      have y6 := v9.cell 6 _ rfl
      clear z0 z1 z2 z3 z4 z5 z6 l3 hR9 hG9
      go_wp2
      refine bodyPost_ret (v := .agg ([.int .i64 5, .string ⟨#[]⟩, .slice none 0 0, .string ⟨#[]⟩, .int .i64 p, .int .i64 li, .int .i64 co]).toArray) (by simp [results, Try.results56, go_sem, y0, y1, y2, y3, y4, y5, y6]) rfl ?_
      rw [HO.out, HPL.out]
      exact ⟨_, _, _, _, _, _, l2, rfl, HR9.out, HG9.out⟩
    | ok tx r1 =>
      rw [show plain (⟨#[45, 45, 62]⟩ : S).data.toList (l.drop 4) = .ok tx r1 from hpl] at hcall
      have HPL := Lib.hid hpl
      clear hpl
      refine hcall.mono ?_
      intro e Wq hO
      obtain ⟨rfl, hRq, hgq⟩ : RGo (.string (bs tx)) b s r1 0 0 Wp e Wq := hO
      have hNq := HNp.out.call hRq hgq
      have a3 := hNq.x3.cell 3 _ rfl
      have f3 := hNq.x3.free 3
      have l3 := hNq.x3.lt
      have HNq := Lib.hid hNq
      clear hNq hRq hgq hcall
      go_upto_region 8 with fail
      refine wp_world ?_
      intro Wr hWr
      have hNr : NxS w Wr b s r1 0 0 [.int .i64 5, .string ⟨#[]⟩, .slice none 0 0, .string (bs tx), .int .i64 p, .int .i64 li, .int .i64 co] := by rw [hWr]; exact HNq.out.set 3 _
      clear hWr
      clear a3 f3 l3
      have z0 := hNr.x3.cell 0 _ rfl
      have z1 := hNr.x3.cell 1 _ rfl
      have z2 := hNr.x3.cell 2 _ rfl
      have z3 := hNr.x3.cell 3 _ rfl
      have z4 := hNr.x3.cell 4 _ rfl
      have z5 := hNr.x3.cell 5 _ rfl
      have z6 := hNr.x3.cell 6 _ rfl
      have l3 := hNr.x3.lt
      have HNF := Lib.hid hNr
      clear hNr
      go_wp2_with ((with_reducible show wpList _ _ _ (Oper.mk none (Op.store 34 (.tmp 2) (.tmp 36)) _ _ _ _ :: _) _ _); refine wpList_store_box rfl 34 (.tmp 2) (.tmp 36) rfl w.heap.size zero7 [.int .i64 5, .string ⟨#[]⟩, .slice none 0 0, .string (bs tx), .int .i64 p, .int .i64 li, .int .i64 co] rfl rfl HNF.out.x2 rfl size_tok (by simp [Value.oneCell']) ?_; intro W9 v9 hg9)
      obtain ⟨hR9, hG9⟩ := HNF.out.done hg9
      have HR9 := Lib.hid hR9
      have HG9 := Lib.hid hG9
      have y0 := v9.cell 0 _ rfl
      have y1 := v9.cell 1 _ rfl
      have y2 := v9.cell 2 _ rfl
      have y3 := v9.cell 3 _ rfl
      have y4 := v9.cell 4 _ rfl
      have y5 := v9.cell 5 _ rfl
      have y6 := v9.cell 6 _ rfl
      clear z0 z1 z2 z3 z4 z5 z6 l3 hR9 hG9
      go_wp2
      refine bodyPost_ret (v := .agg ([.int .i64 5, .string ⟨#[]⟩, .slice none 0 0, .string (bs tx), .int .i64 p, .int .i64 li, .int .i64 co]).toArray) (by simp [results, Try.results56, go_sem, y0, y1, y2, y3, y4, y5, y6]) rfl ?_
      rw [HO.out, HPL.out]
      exact ⟨_, ⟨rfl, HR9.out, HG9.out⟩, Owns.nil⟩
  have Hq1 := Lib.hid hq1
  clear hq1
  have HB : Hid (Calls Try.prog 87 #[.pointer (some ⟨b, 0, none⟩), .string ⟨#[60, 33, 45, 45]⟩] W1 (Qt (.bool false) W1)) := by
    have := HBG.out ⟨#[60, 33, 45, 45]⟩ W1 HN1.out.rd
    rw [show (⟨#[60, 33, 45, 45]⟩ : S).data.toList.isPrefixOf l = false from Hq1.out] at this
    exact this
  go_wp2_with fail
  refine HB.out.mono ?_
  rintro e W2 ⟨rfl, nW2, hW2⟩
  have HN2 : Hid (NxS w W2 b s l 0 0 [.int .i64 0, .string ⟨#[]⟩, .slice none 0 0, .string ⟨#[]⟩, .int .i64 p, .int .i64 li, .int .i64 co]) := by rw [hW2]; exact HN1.out.drewN _
  clear hW2 HB
  cases hq2 : sData.isPrefixOf l
  rotate_left
  · have Hq2 := Lib.hid hq2
    clear hq2
    have HB : Hid (Calls Try.prog 87 #[.pointer (some ⟨b, 0, none⟩), .string ⟨#[60, 33, 91, 67, 68, 65, 84, 65, 91]⟩] W2 (Qt (.bool true) W2)) := by
      have := HBG.out ⟨#[60, 33, 91, 67, 68, 65, 84, 65, 91]⟩ W2 HN2.out.rd
      rw [show (⟨#[60, 33, 91, 67, 68, 65, 84, 65, 91]⟩ : S).data.toList.isPrefixOf l = true from Hq2.out] at this
      exact this
    go_wp2_with fail
    refine HB.out.mono ?_
    rintro e W3 ⟨rfl, nW3, hW3⟩
    have HN3 : Hid (NxS w W3 b s l 0 0 [.int .i64 0, .string ⟨#[]⟩, .slice none 0 0, .string ⟨#[]⟩, .int .i64 p, .int .i64 li, .int .i64 co]) := by rw [hW3]; exact HN2.out.drewN _
    clear hW3 HB
    have a0 := HN3.out.x3.cell 0 _ rfl
    have f0 := HN3.out.x3.free 0
    have l3 := HN3.out.x3.lt
    go_wp2_with fail
    refine Calls.world ?_
    intro Wp hWp
    have hNp : NxS w Wp b s l 0 0 [.int .i64 4, .string ⟨#[]⟩, .slice none 0 0, .string ⟨#[]⟩, .int .i64 p, .int .i64 li, .int .i64 co] := by rw [hWp]; exact HN3.out.set 0 _
    clear hWp a0 f0 l3
    have hcall := rplain_any b s ⟨#[93, 93, 62]⟩ l 9 Wp hNp.rd hs (pre_drop Hq2.out) (by decide)
    have HNp := Lib.hid hNp
    clear hNp
    have HO : Hid (tokenR first l = (plain [93, 93, 62] (l.drop 9)).map fun t => ⟨4, [], [], t⟩) := by
      show _ = _
      simp only [tokenR]; rw [if_neg (by rw [Hq1.out]; simp), if_pos Hq2.out]; rfl
    cases hpl : plain [93, 93, 62] (l.drop 9) with
    | bad x r1 =>
      rw [show plain (⟨#[93, 93, 62]⟩ : S).data.toList (l.drop 9) = .bad x r1 from hpl] at hcall
      have HPL := Lib.hid hpl
      clear hpl
      refine hcall.mono ?_
      intro e Wq hO
      obtain ⟨l2, rfl, hRq, hgq⟩ : ∃ l', RGo (.string ⟨#[]⟩) b s l' x (pos s r1 : Nat) Wp e Wq := hO
      have hNq := HNp.out.call hRq hgq
      have a3 := hNq.x3.cell 3 _ rfl
      have f3 := hNq.x3.free 3
      have l3 := hNq.x3.lt
      have HNq := Lib.hid hNq
      clear hNq hRq hgq hcall
      go_upto_region 12 with fail
      refine wp_world ?_
      intro Wr hWr
      have hNr : NxS w Wr b s l2 x (pos s r1 : Nat) [.int .i64 4, .string ⟨#[]⟩, .slice none 0 0, .string ⟨#[]⟩, .int .i64 p, .int .i64 li, .int .i64 co] := by rw [hWr]; exact HNq.out.set 3 _
      clear hWr
      clear a3 f3 l3
      have z0 := hNr.x3.cell 0 _ rfl
      have z1 := hNr.x3.cell 1 _ rfl
      have z2 := hNr.x3.cell 2 _ rfl
      have z3 := hNr.x3.cell 3 _ rfl
      have z4 := hNr.x3.cell 4 _ rfl
      have z5 := hNr.x3.cell 5 _ rfl
      have z6 := hNr.x3.cell 6 _ rfl
      have l3 := hNr.x3.lt
      have HNF := Lib.hid hNr
      clear hNr
      go_wp2_with ((with_reducible show wpList _ _ _ (Oper.mk none (Op.store 34 (.tmp 2) (.tmp 43)) _ _ _ _ :: _) _ _); refine wpList_store_box rfl 34 (.tmp 2) (.tmp 43) rfl w.heap.size zero7 [.int .i64 4, .string ⟨#[]⟩, .slice none 0 0, .string ⟨#[]⟩, .int .i64 p, .int .i64 li, .int .i64 co] rfl rfl HNF.out.x2 rfl size_tok (by simp [Value.oneCell']) ?_; intro W9 v9 hg9)
      obtain ⟨hR9, hG9⟩ := HNF.out.done hg9
      have HR9 := Lib.hid hR9
      have HG9 := Lib.hid hG9
      have y0 := v9.cell 0 _ rfl
      have y1 := v9.cell 1 _ rfl
      have y2 := v9.cell 2 _ rfl
      have y3 := v9.cell 3 _ rfl
      have y4 := v9.cell 4 _ rfl
      have y5 := v9.cell 5 _ rfl
      have y6 := v9.cell 6 _ rfl
      clear z0 z1 z2 z3 z4 z5 z6 l3 hR9 hG9
      go_wp2
      refine bodyPost_ret (v := .agg ([.int .i64 4, .string ⟨#[]⟩, .slice none 0 0, .string ⟨#[]⟩, .int .i64 p, .int .i64 li, .int .i64 co]).toArray) (by simp [results, Try.results56, go_sem, y0, y1, y2, y3, y4, y5, y6]) rfl ?_
      rw [HO.out, HPL.out]
      exact ⟨_, _, _, _, _, _, l2, rfl, HR9.out, HG9.out⟩
    | ok tx r1 =>
      rw [show plain (⟨#[93, 93, 62]⟩ : S).data.toList (l.drop 9) = .ok tx r1 from hpl] at hcall
      have HPL := Lib.hid hpl
      clear hpl
      refine hcall.mono ?_
      intro e Wq hO
      obtain ⟨rfl, hRq, hgq⟩ : RGo (.string (bs tx)) b s r1 0 0 Wp e Wq := hO
      have hNq := HNp.out.call hRq hgq
      have a3 := hNq.x3.cell 3 _ rfl
      have f3 := hNq.x3.free 3
      have l3 := hNq.x3.lt
      have HNq := Lib.hid hNq
      clear hNq hRq hgq hcall
      go_upto_region 12 with fail
      refine wp_world ?_
      intro Wr hWr
      have hNr : NxS w Wr b s r1 0 0 [.int .i64 4, .string ⟨#[]⟩, .slice none 0 0, .string (bs tx), .int .i64 p, .int .i64 li, .int .i64 co] := by rw [hWr]; exact HNq.out.set 3 _
      clear hWr
      clear a3 f3 l3
      have z0 := hNr.x3.cell 0 _ rfl
      have z1 := hNr.x3.cell 1 _ rfl
      have z2 := hNr.x3.cell 2 _ rfl
      have z3 := hNr.x3.cell 3 _ rfl
      have z4 := hNr.x3.cell 4 _ rfl
      have z5 := hNr.x3.cell 5 _ rfl
      have z6 := hNr.x3.cell 6 _ rfl
      have l3 := hNr.x3.lt
      have HNF := Lib.hid hNr
      clear hNr
      go_wp2_with ((with_reducible show wpList _ _ _ (Oper.mk none (Op.store 34 (.tmp 2) (.tmp 43)) _ _ _ _ :: _) _ _); refine wpList_store_box rfl 34 (.tmp 2) (.tmp 43) rfl w.heap.size zero7 [.int .i64 4, .string ⟨#[]⟩, .slice none 0 0, .string (bs tx), .int .i64 p, .int .i64 li, .int .i64 co] rfl rfl HNF.out.x2 rfl size_tok (by simp [Value.oneCell']) ?_; intro W9 v9 hg9)
      obtain ⟨hR9, hG9⟩ := HNF.out.done hg9
      have HR9 := Lib.hid hR9
      have HG9 := Lib.hid hG9
      have y0 := v9.cell 0 _ rfl
      have y1 := v9.cell 1 _ rfl
      have y2 := v9.cell 2 _ rfl
      have y3 := v9.cell 3 _ rfl
      have y4 := v9.cell 4 _ rfl
      have y5 := v9.cell 5 _ rfl
      have y6 := v9.cell 6 _ rfl
      clear z0 z1 z2 z3 z4 z5 z6 l3 hR9 hG9
      go_wp2
      refine bodyPost_ret (v := .agg ([.int .i64 4, .string ⟨#[]⟩, .slice none 0 0, .string (bs tx), .int .i64 p, .int .i64 li, .int .i64 co]).toArray) (by simp [results, Try.results56, go_sem, y0, y1, y2, y3, y4, y5, y6]) rfl ?_
      rw [HO.out, HPL.out]
      exact ⟨_, ⟨rfl, HR9.out, HG9.out⟩, Owns.nil⟩
  have Hq2 := Lib.hid hq2
  clear hq2
  have HB : Hid (Calls Try.prog 87 #[.pointer (some ⟨b, 0, none⟩), .string ⟨#[60, 33, 91, 67, 68, 65, 84, 65, 91]⟩] W2 (Qt (.bool false) W2)) := by
    have := HBG.out ⟨#[60, 33, 91, 67, 68, 65, 84, 65, 91]⟩ W2 HN2.out.rd
    rw [show (⟨#[60, 33, 91, 67, 68, 65, 84, 65, 91]⟩ : S).data.toList.isPrefixOf l = false from Hq2.out] at this
    exact this
  go_wp2_with fail
  refine HB.out.mono ?_
  rintro e W3 ⟨rfl, nW3, hW3⟩
  have HN3 : Hid (NxS w W3 b s l 0 0 [.int .i64 0, .string ⟨#[]⟩, .slice none 0 0, .string ⟨#[]⟩, .int .i64 p, .int .i64 li, .int .i64 co]) := by rw [hW3]; exact HN2.out.drewN _
  clear hW3 HB
  have HN1' : Hid (∀ k W, RR W b s l 0 0 → k ≤ 5 → Calls Try.prog 89 #[.pointer (some ⟨b, 0, none⟩), .int .i64 (k : Nat)] W (Qt (.int .u8 (atV l k).toNat) W)) := fun k W hW hk => rat_any b s l 0 0 k W hW hs hk
  have c1 := HN3.out.rd.c1
  rw [HPP.out] at c1
  have hlt := HN3.out.rd.box.lt
  by_cases hhd : (first && isHead l) = true
  · have Hhd := Lib.hid hhd
    rw [Bool.and_eq_true, isHead_at, Bool.and_eq_true, Bool.or_eq_true, HF.out, decide_eq_true_iff] at hhd
    obtain ⟨hp0, hq3, hq4⟩ := hhd
    have e0 : ((p : Int) == 0) = true := beq_iff_eq.2 (by omega)
    have Hq3 := Lib.hid hq3
    clear hq3 hp0
    have HB : Hid (Calls Try.prog 87 #[.pointer (some ⟨b, 0, none⟩), .string ⟨#[60, 63, 120, 109, 108]⟩] W3 (Qt (.bool true) W3)) := by
      have := HBG.out ⟨#[60, 63, 120, 109, 108]⟩ W3 HN3.out.rd
      rw [show (⟨#[60, 63, 120, 109, 108]⟩ : S).data.toList.isPrefixOf l = true from Hq3.out] at this
      exact this
    go_wp2_with fail
    refine HB.out.mono ?_
    rintro e W4 ⟨rfl, nW4, hW4⟩
    have HN4 : Hid (NxS w W4 b s l 0 0 [.int .i64 0, .string ⟨#[]⟩, .slice none 0 0, .string ⟨#[]⟩, .int .i64 p, .int .i64 li, .int .i64 co]) := by rw [hW4]; exact HN3.out.drewN _
    clear hW4 HB
    clear c1 hlt e0
    have HA5 : Hid (∀ W, RR W b s l 0 0 → Calls Try.prog 89 #[.pointer (some ⟨b, 0, none⟩), .int .i64 5] W (Qt (.int .u8 (atV l 5).toNat) W)) := fun W hW => HN1'.out 5 W hW (by omega)
    generalize hz5 : atV l 5 = z5 at *
    clear hz5
    go_wp2_with fail
    refine (HA5.out W4 HN4.out.rd).mono ?_
    rintro e W5 ⟨rfl, n5, hW5⟩
    have HN5 : Hid (NxS w W5 b s l 0 0 [.int .i64 0, .string ⟨#[]⟩, .slice none 0 0, .string ⟨#[]⟩, .int .i64 p, .int .i64 li, .int .i64 co]) := by rw [hW5]; exact HN4.out.drewN _
    clear hW5
    by_cases h63 : z5 = 63
    · have e63 : (((z5.toNat : Nat) : Int) == 63) = true := by rw [h63]; decide
      clear h63 hq4
      have a0 := HN5.out.x3.cell 0 _ rfl
      have f0 := HN5.out.x3.free 0
      have l3 := HN5.out.x3.lt
      go_wp2_with fail
      refine Calls.world ?_
      intro Wp hWp
      have hNp : NxS w Wp b s l 0 0 [.int .i64 6, .string ⟨#[]⟩, .slice none 0 0, .string ⟨#[]⟩, .int .i64 p, .int .i64 li, .int .i64 co] := by rw [hWp]; exact HN5.out.set 0 _
      clear hWp a0 f0 l3
      have hcall := rplain_any b s ⟨#[63, 62]⟩ l 5 Wp hNp.rd hs (pre_drop Hq3.out) (by decide)
      have HNp := Lib.hid hNp
      clear hNp
      have HO : Hid (tokenR first l = (plain [63, 62] (l.drop 5)).map fun t => ⟨6, [], [], t⟩) := by
        show _ = _
        simp only [tokenR]; rw [if_neg (by rw [Hq1.out]; simp), if_neg (by rw [Hq2.out]; simp), if_pos Hhd.out]; rfl
      cases hpl : plain [63, 62] (l.drop 5) with
      | bad x r1 =>
        rw [show plain (⟨#[63, 62]⟩ : S).data.toList (l.drop 5) = .bad x r1 from hpl] at hcall
        have HPL := Lib.hid hpl
        clear hpl
        refine hcall.mono ?_
        intro e Wq hO
        obtain ⟨l2, rfl, hRq, hgq⟩ : ∃ l', RGo (.string ⟨#[]⟩) b s l' x (pos s r1 : Nat) Wp e Wq := hO
        have hNq := HNp.out.call hRq hgq
        have a3 := hNq.x3.cell 3 _ rfl
        have f3 := hNq.x3.free 3
        have l3 := hNq.x3.lt
        have HNq := Lib.hid hNq
        clear hNq hRq hgq hcall
        go_upto_region 16 with fail
        refine wp_world ?_
        intro Wr hWr
        have hNr : NxS w Wr b s l2 x (pos s r1 : Nat) [.int .i64 6, .string ⟨#[]⟩, .slice none 0 0, .string ⟨#[]⟩, .int .i64 p, .int .i64 li, .int .i64 co] := by rw [hWr]; exact HNq.out.set 3 _
        clear hWr
        clear a3 f3 l3
        have z0 := hNr.x3.cell 0 _ rfl
        have z1 := hNr.x3.cell 1 _ rfl
        have z2 := hNr.x3.cell 2 _ rfl
        have z3 := hNr.x3.cell 3 _ rfl
        have z4 := hNr.x3.cell 4 _ rfl
        have z5 := hNr.x3.cell 5 _ rfl
        have z6 := hNr.x3.cell 6 _ rfl
        have l3 := hNr.x3.lt
        have HNF := Lib.hid hNr
        clear hNr
        go_wp2_with ((with_reducible show wpList _ _ _ (Oper.mk none (Op.store 34 (.tmp 2) (.tmp 67)) _ _ _ _ :: _) _ _); refine wpList_store_box rfl 34 (.tmp 2) (.tmp 67) rfl w.heap.size zero7 [.int .i64 6, .string ⟨#[]⟩, .slice none 0 0, .string ⟨#[]⟩, .int .i64 p, .int .i64 li, .int .i64 co] rfl rfl HNF.out.x2 rfl size_tok (by simp [Value.oneCell']) ?_; intro W9 v9 hg9)
        obtain ⟨hR9, hG9⟩ := HNF.out.done hg9
        have HR9 := Lib.hid hR9
        have HG9 := Lib.hid hG9
        have y0 := v9.cell 0 _ rfl
        have y1 := v9.cell 1 _ rfl
        have y2 := v9.cell 2 _ rfl
        have y3 := v9.cell 3 _ rfl
        have y4 := v9.cell 4 _ rfl
        have y5 := v9.cell 5 _ rfl
        have y6 := v9.cell 6 _ rfl
        clear z0 z1 z2 z3 z4 z5 z6 l3 hR9 hG9
        go_wp2
        refine bodyPost_ret (v := .agg ([.int .i64 6, .string ⟨#[]⟩, .slice none 0 0, .string ⟨#[]⟩, .int .i64 p, .int .i64 li, .int .i64 co]).toArray) (by simp [results, Try.results56, go_sem, y0, y1, y2, y3, y4, y5, y6]) rfl ?_
        rw [HO.out, HPL.out]
        exact ⟨_, _, _, _, _, _, l2, rfl, HR9.out, HG9.out⟩
      | ok tx r1 =>
        rw [show plain (⟨#[63, 62]⟩ : S).data.toList (l.drop 5) = .ok tx r1 from hpl] at hcall
        have HPL := Lib.hid hpl
        clear hpl
        refine hcall.mono ?_
        intro e Wq hO
        obtain ⟨rfl, hRq, hgq⟩ : RGo (.string (bs tx)) b s r1 0 0 Wp e Wq := hO
        have hNq := HNp.out.call hRq hgq
        have a3 := hNq.x3.cell 3 _ rfl
        have f3 := hNq.x3.free 3
        have l3 := hNq.x3.lt
        have HNq := Lib.hid hNq
        clear hNq hRq hgq hcall
        go_upto_region 16 with fail
        refine wp_world ?_
        intro Wr hWr
        have hNr : NxS w Wr b s r1 0 0 [.int .i64 6, .string ⟨#[]⟩, .slice none 0 0, .string (bs tx), .int .i64 p, .int .i64 li, .int .i64 co] := by rw [hWr]; exact HNq.out.set 3 _
        clear hWr
        clear a3 f3 l3
        have z0 := hNr.x3.cell 0 _ rfl
        have z1 := hNr.x3.cell 1 _ rfl
        have z2 := hNr.x3.cell 2 _ rfl
        have z3 := hNr.x3.cell 3 _ rfl
        have z4 := hNr.x3.cell 4 _ rfl
        have z5 := hNr.x3.cell 5 _ rfl
        have z6 := hNr.x3.cell 6 _ rfl
        have l3 := hNr.x3.lt
        have HNF := Lib.hid hNr
        clear hNr
        go_wp2_with ((with_reducible show wpList _ _ _ (Oper.mk none (Op.store 34 (.tmp 2) (.tmp 67)) _ _ _ _ :: _) _ _); refine wpList_store_box rfl 34 (.tmp 2) (.tmp 67) rfl w.heap.size zero7 [.int .i64 6, .string ⟨#[]⟩, .slice none 0 0, .string (bs tx), .int .i64 p, .int .i64 li, .int .i64 co] rfl rfl HNF.out.x2 rfl size_tok (by simp [Value.oneCell']) ?_; intro W9 v9 hg9)
        obtain ⟨hR9, hG9⟩ := HNF.out.done hg9
        have HR9 := Lib.hid hR9
        have HG9 := Lib.hid hG9
        have y0 := v9.cell 0 _ rfl
        have y1 := v9.cell 1 _ rfl
        have y2 := v9.cell 2 _ rfl
        have y3 := v9.cell 3 _ rfl
        have y4 := v9.cell 4 _ rfl
        have y5 := v9.cell 5 _ rfl
        have y6 := v9.cell 6 _ rfl
        clear z0 z1 z2 z3 z4 z5 z6 l3 hR9 hG9
        go_wp2
        refine bodyPost_ret (v := .agg ([.int .i64 6, .string ⟨#[]⟩, .slice none 0 0, .string (bs tx), .int .i64 p, .int .i64 li, .int .i64 co]).toArray) (by simp [results, Try.results56, go_sem, y0, y1, y2, y3, y4, y5, y6]) rfl ?_
        rw [HO.out, HPL.out]
        exact ⟨_, ⟨rfl, HR9.out, HG9.out⟩, Owns.nil⟩
    · have e63 : (((z5.toNat : Nat) : Int) == 63) = false := ne_u8 (c := 63) h63
      have hbl : cBlank z5 = true := by
        rcases hq4 with h | h
        · exact absurd (by simpa using h) h63
        · exact h
      have HA6 : Hid (∀ W, Calls Try.prog 26 #[.int .u8 z5.toNat, .int .i64 1] W fun e w' => e = .returned (.bool true) ∧ W = w') := fun W => hbl ▸ is1_any z5 W
      clear h63 hq4 hbl
      go_wp2_with fail
      refine (HA5.out W5 HN5.out.rd).mono ?_
      rintro e W6 ⟨rfl, n6, hW6⟩
      have HN6 : Hid (NxS w W6 b s l 0 0 [.int .i64 0, .string ⟨#[]⟩, .slice none 0 0, .string ⟨#[]⟩, .int .i64 p, .int .i64 li, .int .i64 co]) := by rw [hW6]; exact HN5.out.drewN _
      clear hW6
      go_wp2_with fail
      refine (HA6.out W6).mono ?_
      rintro e w' ⟨rfl, rfl⟩
      have a0 := HN6.out.x3.cell 0 _ rfl
      have f0 := HN6.out.x3.free 0
      have l3 := HN6.out.x3.lt
      go_wp2_with fail
      refine Calls.world ?_
      intro Wp hWp
      have hNp : NxS w Wp b s l 0 0 [.int .i64 6, .string ⟨#[]⟩, .slice none 0 0, .string ⟨#[]⟩, .int .i64 p, .int .i64 li, .int .i64 co] := by rw [hWp]; exact HN6.out.set 0 _
      clear hWp a0 f0 l3
      have hcall := rplain_any b s ⟨#[63, 62]⟩ l 5 Wp hNp.rd hs (pre_drop Hq3.out) (by decide)
      have HNp := Lib.hid hNp
      clear hNp
      have HO : Hid (tokenR first l = (plain [63, 62] (l.drop 5)).map fun t => ⟨6, [], [], t⟩) := by
        show _ = _
        simp only [tokenR]; rw [if_neg (by rw [Hq1.out]; simp), if_neg (by rw [Hq2.out]; simp), if_pos Hhd.out]; rfl
      cases hpl : plain [63, 62] (l.drop 5) with
      | bad x r1 =>
        rw [show plain (⟨#[63, 62]⟩ : S).data.toList (l.drop 5) = .bad x r1 from hpl] at hcall
        have HPL := Lib.hid hpl
        clear hpl
        refine hcall.mono ?_
        intro e Wq hO
        obtain ⟨l2, rfl, hRq, hgq⟩ : ∃ l', RGo (.string ⟨#[]⟩) b s l' x (pos s r1 : Nat) Wp e Wq := hO
        have hNq := HNp.out.call hRq hgq
        have a3 := hNq.x3.cell 3 _ rfl
        have f3 := hNq.x3.free 3
        have l3 := hNq.x3.lt
        have HNq := Lib.hid hNq
        clear hNq hRq hgq hcall
        go_upto_region 16 with fail
        refine wp_world ?_
        intro Wr hWr
        have hNr : NxS w Wr b s l2 x (pos s r1 : Nat) [.int .i64 6, .string ⟨#[]⟩, .slice none 0 0, .string ⟨#[]⟩, .int .i64 p, .int .i64 li, .int .i64 co] := by rw [hWr]; exact HNq.out.set 3 _
        clear hWr
        clear a3 f3 l3
        have z0 := hNr.x3.cell 0 _ rfl
        have z1 := hNr.x3.cell 1 _ rfl
        have z2 := hNr.x3.cell 2 _ rfl
        have z3 := hNr.x3.cell 3 _ rfl
        have z4 := hNr.x3.cell 4 _ rfl
        have z5 := hNr.x3.cell 5 _ rfl
        have z6 := hNr.x3.cell 6 _ rfl
        have l3 := hNr.x3.lt
        have HNF := Lib.hid hNr
        clear hNr
        go_wp2_with ((with_reducible show wpList _ _ _ (Oper.mk none (Op.store 34 (.tmp 2) (.tmp 67)) _ _ _ _ :: _) _ _); refine wpList_store_box rfl 34 (.tmp 2) (.tmp 67) rfl w.heap.size zero7 [.int .i64 6, .string ⟨#[]⟩, .slice none 0 0, .string ⟨#[]⟩, .int .i64 p, .int .i64 li, .int .i64 co] rfl rfl HNF.out.x2 rfl size_tok (by simp [Value.oneCell']) ?_; intro W9 v9 hg9)
        obtain ⟨hR9, hG9⟩ := HNF.out.done hg9
        have HR9 := Lib.hid hR9
        have HG9 := Lib.hid hG9
        have y0 := v9.cell 0 _ rfl
        have y1 := v9.cell 1 _ rfl
        have y2 := v9.cell 2 _ rfl
        have y3 := v9.cell 3 _ rfl
        have y4 := v9.cell 4 _ rfl
        have y5 := v9.cell 5 _ rfl
        have y6 := v9.cell 6 _ rfl
        clear z0 z1 z2 z3 z4 z5 z6 l3 hR9 hG9
        go_wp2
        refine bodyPost_ret (v := .agg ([.int .i64 6, .string ⟨#[]⟩, .slice none 0 0, .string ⟨#[]⟩, .int .i64 p, .int .i64 li, .int .i64 co]).toArray) (by simp [results, Try.results56, go_sem, y0, y1, y2, y3, y4, y5, y6]) rfl ?_
        rw [HO.out, HPL.out]
        exact ⟨_, _, _, _, _, _, l2, rfl, HR9.out, HG9.out⟩
      | ok tx r1 =>
        rw [show plain (⟨#[63, 62]⟩ : S).data.toList (l.drop 5) = .ok tx r1 from hpl] at hcall
        have HPL := Lib.hid hpl
        clear hpl
        refine hcall.mono ?_
        intro e Wq hO
        obtain ⟨rfl, hRq, hgq⟩ : RGo (.string (bs tx)) b s r1 0 0 Wp e Wq := hO
        have hNq := HNp.out.call hRq hgq
        have a3 := hNq.x3.cell 3 _ rfl
        have f3 := hNq.x3.free 3
        have l3 := hNq.x3.lt
        have HNq := Lib.hid hNq
        clear hNq hRq hgq hcall
        go_upto_region 16 with fail
        refine wp_world ?_
        intro Wr hWr
        have hNr : NxS w Wr b s r1 0 0 [.int .i64 6, .string ⟨#[]⟩, .slice none 0 0, .string (bs tx), .int .i64 p, .int .i64 li, .int .i64 co] := by rw [hWr]; exact HNq.out.set 3 _
        clear hWr
        clear a3 f3 l3
        have z0 := hNr.x3.cell 0 _ rfl
        have z1 := hNr.x3.cell 1 _ rfl
        have z2 := hNr.x3.cell 2 _ rfl
        have z3 := hNr.x3.cell 3 _ rfl
        have z4 := hNr.x3.cell 4 _ rfl
        have z5 := hNr.x3.cell 5 _ rfl
        have z6 := hNr.x3.cell 6 _ rfl
        have l3 := hNr.x3.lt
        have HNF := Lib.hid hNr
        clear hNr
        go_wp2_with ((with_reducible show wpList _ _ _ (Oper.mk none (Op.store 34 (.tmp 2) (.tmp 67)) _ _ _ _ :: _) _ _); refine wpList_store_box rfl 34 (.tmp 2) (.tmp 67) rfl w.heap.size zero7 [.int .i64 6, .string ⟨#[]⟩, .slice none 0 0, .string (bs tx), .int .i64 p, .int .i64 li, .int .i64 co] rfl rfl HNF.out.x2 rfl size_tok (by simp [Value.oneCell']) ?_; intro W9 v9 hg9)
        obtain ⟨hR9, hG9⟩ := HNF.out.done hg9
        have HR9 := Lib.hid hR9
        have HG9 := Lib.hid hG9
        have y0 := v9.cell 0 _ rfl
        have y1 := v9.cell 1 _ rfl
        have y2 := v9.cell 2 _ rfl
        have y3 := v9.cell 3 _ rfl
        have y4 := v9.cell 4 _ rfl
        have y5 := v9.cell 5 _ rfl
        have y6 := v9.cell 6 _ rfl
        clear z0 z1 z2 z3 z4 z5 z6 l3 hR9 hG9
        go_wp2
        refine bodyPost_ret (v := .agg ([.int .i64 6, .string ⟨#[]⟩, .slice none 0 0, .string (bs tx), .int .i64 p, .int .i64 li, .int .i64 co]).toArray) (by simp [results, Try.results56, go_sem, y0, y1, y2, y3, y4, y5, y6]) rfl ?_
        rw [HO.out, HPL.out]
        exact ⟨_, ⟨rfl, HR9.out, HG9.out⟩, Owns.nil⟩
  have Hhd := Lib.hid hhd
  clear hhd
  go_upto_region 13 with fail
  go_cut [62] from 44 (fun v wx => v = .bool false ∧ NxS w wx b s l 0 0 [.int .i64 0, .string ⟨#[]⟩, .slice none 0 0, .string ⟨#[]⟩, .int .i64 p, .int .i64 li, .int .i64 co])
  case first =>
    have hhd := Hhd.out
    rw [Bool.and_eq_true, isHead_at, Bool.and_eq_true, Bool.or_eq_true, HF.out, decide_eq_true_iff] at hhd
    by_cases hp0 : p = 0
    rotate_left
    · have e0 : ((p : Int) == 0) = false := beq_eq_false_iff_ne.2 (by omega)
      clear hhd hp0
      go_wp2
      go_meet
      exact ⟨rfl, HN3.out⟩
    have e0 : ((p : Int) == 0) = true := beq_iff_eq.2 (by omega)
    cases hq3 : sHead.isPrefixOf l
    · have Hq3 := Lib.hid hq3
      clear hq3 hhd hp0
      have HB : Hid (Calls Try.prog 87 #[.pointer (some ⟨b, 0, none⟩), .string ⟨#[60, 63, 120, 109, 108]⟩] W3 (Qt (.bool false) W3)) := by
        have := HBG.out ⟨#[60, 63, 120, 109, 108]⟩ W3 HN3.out.rd
        rw [show (⟨#[60, 63, 120, 109, 108]⟩ : S).data.toList.isPrefixOf l = false from Hq3.out] at this
        exact this
      go_wp2_with fail
      refine HB.out.mono ?_
      rintro e W4 ⟨rfl, nW4, hW4⟩
      have HN4 : Hid (NxS w W4 b s l 0 0 [.int .i64 0, .string ⟨#[]⟩, .slice none 0 0, .string ⟨#[]⟩, .int .i64 p, .int .i64 li, .int .i64 co]) := by rw [hW4]; exact HN3.out.drewN _
      clear hW4 HB
      go_wp2
      go_meet
      exact ⟨rfl, HN4.out⟩
    · have Hq3 := Lib.hid hq3
      have hno : ¬ ((atV l 5 == 63) = true ∨ cBlank (atV l 5) = true) := fun h => hhd ⟨hp0, hq3, h⟩
      clear hq3 hhd hp0
      have HB : Hid (Calls Try.prog 87 #[.pointer (some ⟨b, 0, none⟩), .string ⟨#[60, 63, 120, 109, 108]⟩] W3 (Qt (.bool true) W3)) := by
        have := HBG.out ⟨#[60, 63, 120, 109, 108]⟩ W3 HN3.out.rd
        rw [show (⟨#[60, 63, 120, 109, 108]⟩ : S).data.toList.isPrefixOf l = true from Hq3.out] at this
        exact this
      go_wp2_with fail
      refine HB.out.mono ?_
      rintro e W4 ⟨rfl, nW4, hW4⟩
      have HN4 : Hid (NxS w W4 b s l 0 0 [.int .i64 0, .string ⟨#[]⟩, .slice none 0 0, .string ⟨#[]⟩, .int .i64 p, .int .i64 li, .int .i64 co]) := by rw [hW4]; exact HN3.out.drewN _
      clear hW4 HB
      have HA5 : Hid (∀ W, RR W b s l 0 0 → Calls Try.prog 89 #[.pointer (some ⟨b, 0, none⟩), .int .i64 5] W (Qt (.int .u8 (atV l 5).toNat) W)) := fun W hW => HN1'.out 5 W hW (by omega)
      generalize hz5 : atV l 5 = z5 at *
      clear hz5
      have e63 : (((z5.toNat : Nat) : Int) == 63) = false := ne_u8 (c := 63) (fun h => hno (.inl (by simpa using h)))
      have hbl : cBlank z5 = false := by
        cases h : cBlank z5
        · rfl
        · exact absurd (.inr h) hno
      have HA6 : Hid (∀ W, Calls Try.prog 26 #[.int .u8 z5.toNat, .int .i64 1] W fun e w' => e = .returned (.bool false) ∧ W = w') := fun W => hbl ▸ is1_any z5 W
      clear hno hbl
      go_wp2_with fail
      refine (HA5.out W4 HN4.out.rd).mono ?_
      rintro e W5 ⟨rfl, n5, hW5⟩
      have HN5 : Hid (NxS w W5 b s l 0 0 [.int .i64 0, .string ⟨#[]⟩, .slice none 0 0, .string ⟨#[]⟩, .int .i64 p, .int .i64 li, .int .i64 co]) := by rw [hW5]; exact HN4.out.drewN _
      clear hW5
      go_wp2_with fail
      refine (HA5.out W5 HN5.out.rd).mono ?_
      rintro e W6 ⟨rfl, n6, hW6⟩
      have HN6 : Hid (NxS w W6 b s l 0 0 [.int .i64 0, .string ⟨#[]⟩, .slice none 0 0, .string ⟨#[]⟩, .int .i64 p, .int .i64 li, .int .i64 co]) := by rw [hW6]; exact HN5.out.drewN _
      clear hW6
      go_wp2_with fail
      refine (HA6.out W6).mono ?_
      rintro e w' ⟨rfl, rfl⟩
      go_wp2
      go_meet
      exact ⟨rfl, HN6.out⟩
  case rest =>
    obtain ⟨rfl, hN4⟩ := hcut
    clear c1 hlt HN3 HBG HN2 HN1
    have HN4 := Lib.hid hN4
    clear hN4
    have HA0 : Hid (∀ W, RR W b s l 0 0 → Calls Try.prog 89 #[.pointer (some ⟨b, 0, none⟩), .int .i64 0] W (Qt (.int .u8 (atV l 0).toNat) W)) := fun W hW => HN1'.out 0 W hW (by omega)
    go_wp2_with fail
    refine (HA0.out _ HN4.out.rd).mono ?_
    rintro e W5 ⟨rfl, n5, hW5⟩
    have HN5 : Hid (NxS w W5 b s l 0 0 [.int .i64 0, .string ⟨#[]⟩, .slice none 0 0, .string ⟨#[]⟩, .int .i64 p, .int .i64 li, .int .i64 co]) := by rw [hW5]; exact HN4.out.drewN _
    clear hW5 HN4
    by_cases h60 : atV l 0 = 60
    rotate_left
    · have e60 : (((((atV l 0).toNat : Nat) : Int) != 60)) = true := by rw [bne_iff_ne]; intro e; exact h60 (UInt8.toNat_inj.1 (by simpa using (by omega : (atV l 0).toNat = 60)))
      have HO : Hid (tokenR first l = (letters 60 l).map fun t => ⟨4, [], [], t⟩) := tokenR_letters Hq1.out Hq2.out Hhd.out h60
      clear h60
      have a0 := HN5.out.x3.cell 0 _ rfl
      have f0 := HN5.out.x3.free 0
      have l3 := HN5.out.x3.lt
      go_wp2_with fail
      refine Calls.world ?_
      intro Wp hWp
      have hNp : NxS w Wp b s l 0 0 [.int .i64 4, .string ⟨#[]⟩, .slice none 0 0, .string ⟨#[]⟩, .int .i64 p, .int .i64 li, .int .i64 co] := by rw [hWp]; first | exact HN5.out.set 0 _
      clear hWp
      clear a0 f0 l3
      have hcall : Calls Try.prog 90 #[.pointer (some ⟨b, 0, none⟩), .int .u8 60] Wp _ := rletters_any b s 60 l Wp hNp.rd hs
      have HNp := Lib.hid hNp
      clear hNp
      cases hpl : letters 60 l with
      | bad x r1 =>
        rw [hpl] at hcall
        have HPL := Lib.hid hpl
        clear hpl
        refine hcall.mono ?_
        intro e Wq hO
        obtain ⟨l2, rfl, hRq, hgq⟩ : ∃ l', RGo (.string ⟨#[]⟩) b s l' x (pos s r1 : Nat) Wp e Wq := hO
        have hNq := HNp.out.call hRq hgq
        have a3 := hNq.x3.cell 3 _ rfl
        have f3 := hNq.x3.free 3
        have l3 := hNq.x3.lt
        have HNq := Lib.hid hNq
        clear hNq hRq hgq hcall
        go_upto_region 20 with fail
        refine wp_world ?_
        intro Wr hWr
        have hNr : NxS w Wr b s l2 x (pos s r1 : Nat) [.int .i64 4, .string ⟨#[]⟩, .slice none 0 0, .string ⟨#[]⟩, .int .i64 p, .int .i64 li, .int .i64 co] := by rw [hWr]; exact HNq.out.set 3 _
        clear hWr
        clear a3 f3 l3
        have z0 := hNr.x3.cell 0 _ rfl
        have z1 := hNr.x3.cell 1 _ rfl
        have z2 := hNr.x3.cell 2 _ rfl
        have z3 := hNr.x3.cell 3 _ rfl
        have z4 := hNr.x3.cell 4 _ rfl
        have z5 := hNr.x3.cell 5 _ rfl
        have z6 := hNr.x3.cell 6 _ rfl
        have l3 := hNr.x3.lt
        have HNF := Lib.hid hNr
        clear hNr
        go_wp2_with ((with_reducible show wpList _ _ _ (Oper.mk none (Op.store 34 (.tmp 2) (.tmp 75)) _ _ _ _ :: _) _ _); refine wpList_store_box rfl 34 (.tmp 2) (.tmp 75) rfl w.heap.size zero7 [.int .i64 4, .string ⟨#[]⟩, .slice none 0 0, .string ⟨#[]⟩, .int .i64 p, .int .i64 li, .int .i64 co] rfl rfl HNF.out.x2 rfl size_tok (by simp [Value.oneCell']) ?_; intro W9 v9 hg9)
        obtain ⟨hR9, hG9⟩ := HNF.out.done hg9
        have HR9 := Lib.hid hR9
        have HG9 := Lib.hid hG9
        have y0 := v9.cell 0 _ rfl
        have y1 := v9.cell 1 _ rfl
        have y2 := v9.cell 2 _ rfl
        have y3 := v9.cell 3 _ rfl
        have y4 := v9.cell 4 _ rfl
        have y5 := v9.cell 5 _ rfl
        have y6 := v9.cell 6 _ rfl
        clear z0 z1 z2 z3 z4 z5 z6 l3 hR9 hG9
        go_wp2
        refine bodyPost_ret (v := .agg ([.int .i64 4, .string ⟨#[]⟩, .slice none 0 0, .string ⟨#[]⟩, .int .i64 p, .int .i64 li, .int .i64 co]).toArray) (by simp [results, Try.results56, go_sem, y0, y1, y2, y3, y4, y5, y6]) rfl ?_
        rw [HO.out, HPL.out]
        exact ⟨_, _, _, _, _, _, l2, rfl, HR9.out, HG9.out⟩
      | ok tx r1 =>
        rw [hpl] at hcall
        have HPL := Lib.hid hpl
        clear hpl
        refine hcall.mono ?_
        intro e Wq hO
        obtain ⟨rfl, hRq, hgq⟩ : RGo (.string (bs tx)) b s r1 0 0 Wp e Wq := hO
        have hNq := HNp.out.call hRq hgq
        have a3 := hNq.x3.cell 3 _ rfl
        have f3 := hNq.x3.free 3
        have l3 := hNq.x3.lt
        have HNq := Lib.hid hNq
        clear hNq hRq hgq hcall
        go_upto_region 20 with fail
        refine wp_world ?_
        intro Wr hWr
        have hNr : NxS w Wr b s r1 0 0 [.int .i64 4, .string ⟨#[]⟩, .slice none 0 0, .string (bs tx), .int .i64 p, .int .i64 li, .int .i64 co] := by rw [hWr]; exact HNq.out.set 3 _
        clear hWr
        clear a3 f3 l3
        have z0 := hNr.x3.cell 0 _ rfl
        have z1 := hNr.x3.cell 1 _ rfl
        have z2 := hNr.x3.cell 2 _ rfl
        have z3 := hNr.x3.cell 3 _ rfl
        have z4 := hNr.x3.cell 4 _ rfl
        have z5 := hNr.x3.cell 5 _ rfl
        have z6 := hNr.x3.cell 6 _ rfl
        have l3 := hNr.x3.lt
        have HNF := Lib.hid hNr
        clear hNr
        go_wp2_with ((with_reducible show wpList _ _ _ (Oper.mk none (Op.store 34 (.tmp 2) (.tmp 75)) _ _ _ _ :: _) _ _); refine wpList_store_box rfl 34 (.tmp 2) (.tmp 75) rfl w.heap.size zero7 [.int .i64 4, .string ⟨#[]⟩, .slice none 0 0, .string (bs tx), .int .i64 p, .int .i64 li, .int .i64 co] rfl rfl HNF.out.x2 rfl size_tok (by simp [Value.oneCell']) ?_; intro W9 v9 hg9)
        obtain ⟨hR9, hG9⟩ := HNF.out.done hg9
        have HR9 := Lib.hid hR9
        have HG9 := Lib.hid hG9
        have y0 := v9.cell 0 _ rfl
        have y1 := v9.cell 1 _ rfl
        have y2 := v9.cell 2 _ rfl
        have y3 := v9.cell 3 _ rfl
        have y4 := v9.cell 4 _ rfl
        have y5 := v9.cell 5 _ rfl
        have y6 := v9.cell 6 _ rfl
        clear z0 z1 z2 z3 z4 z5 z6 l3 hR9 hG9
        go_wp2
        refine bodyPost_ret (v := .agg ([.int .i64 4, .string ⟨#[]⟩, .slice none 0 0, .string (bs tx), .int .i64 p, .int .i64 li, .int .i64 co]).toArray) (by simp [results, Try.results56, go_sem, y0, y1, y2, y3, y4, y5, y6]) rfl ?_
        rw [HO.out, HPL.out]
        exact ⟨_, ⟨rfl, HR9.out, HG9.out⟩, Owns.nil⟩
    have e60 : (((((atV l 0).toNat : Nat) : Int) != 60)) = false := by rw [h60]; decide
    obtain ⟨l1, rfl⟩ : ∃ l1, l = 60 :: l1 := by
      cases l with
      | nil => exact absurd h60 (by decide)
      | cons c l1 => exact ⟨l1, by rw [show c = 60 from h60]⟩
    clear h60 HA0 HN1'
    generalize hz0 : atV (60 :: l1) 0 = z0 at *
    clear hz0
    have c1 := HN5.out.rd.c1
    have f1 := HN5.out.rd.box.free 1
    have hlt := HN5.out.rd.box.lt
    have HqC := Lib.hid (pos_cons HN5.out.rd.suf)
    have HqS := Lib.hid (suf_tail HN5.out.rd.suf)
    have qlt := pos_lt HN5.out.rd.suf
    rw [HPP.out] at c1 qlt
    have hpi : (p : Int) + 1 ≤ 1000000 := by omega
    go_wp2_with fail
    refine Calls.world ?_
    intro W6 hW6
    have hN6 : NxS w W6 b s l1 0 0 [.int .i64 0, .string ⟨#[]⟩, .slice none 0 0, .string ⟨#[]⟩, .int .i64 p, .int .i64 li, .int .i64 co] := by rw [hW6]; first | exact HN5.out.move HqS.out (by rw [HqC.out, HPP.out]; rfl)
    clear hW6
    clear c1 f1 hlt e60
    have HA := Lib.hid (rat_any b s l1 0 0 0 W6 hN6.rd hs (by omega))
    have HN6 := Lib.hid hN6
    clear hN6
    refine HA.out.mono ?_
    rintro e W7 ⟨rfl, n7, hW7⟩
    have HN7 : Hid (NxS w W7 b s l1 0 0 [.int .i64 0, .string ⟨#[]⟩, .slice none 0 0, .string ⟨#[]⟩, .int .i64 p, .int .i64 li, .int .i64 co]) := by rw [hW7]; exact HN6.out.drewN _
    clear hW7 HA HN6
    by_cases h47 : atV l1 0 = 47
    · have e47 : (((((atV l1 0).toNat : Nat) : Int) == 47)) = true := by rw [h47]; decide
      obtain ⟨l2, rfl⟩ : ∃ l2, l1 = 47 :: l2 := by
        cases l1 with
        | nil => exact absurd h47 (by decide)
        | cons c l2 => exact ⟨l2, by rw [show c = 47 from h47]⟩
      have HO : Hid (tokenR first (60 :: 47 :: l2) = closeR l2) := tokenR_close Hq1.out Hq2.out Hhd.out
      clear h47
      generalize hz1 : atV (47 :: l2) 0 = z1 at *
      clear hz1
      have c1 := HN7.out.rd.c1
      have f1 := HN7.out.rd.box.free 1
      have hlt := HN7.out.rd.box.lt
      have HrC := Lib.hid (pos_cons HN7.out.rd.suf)
      have HrS := Lib.hid (suf_tail HN7.out.rd.suf)
      have rlt := pos_lt HN7.out.rd.suf
      have a0 := HN7.out.x3.cell 0 _ rfl
      have f0 := HN7.out.x3.free 0
      have l3 := HN7.out.x3.lt
      generalize hp1 : pos s (47 :: l2) = p1 at *
      have HP1 := Lib.hid hp1
      clear hp1
      have hpi1 : (p1 : Int) + 1 ≤ 1000000 := by omega
      go_wp2_with fail
      refine Calls.world ?_
      intro Wp hWp
      have hNp : NxS w Wp b s l2 0 0 [.int .i64 3, .string ⟨#[]⟩, .slice none 0 0, .string ⟨#[]⟩, .int .i64 p, .int .i64 li, .int .i64 co] := by rw [hWp]; first | exact (HN7.out.move HrS.out (by rw [HrC.out]; rfl)).set 0 _
      clear hWp
      clear c1 f1 hlt a0 f0 l3 e47
      have hcall := rrname_any b s 11 l2 Wp hNp.rd hs
      have HNp := Lib.hid hNp
      clear hNp
      cases hnm : nameR 11 l2 with
      | bad x r1 =>
        rw [hnm] at hcall
        have HNM := Lib.hid hnm
        have hx0 : x ≠ 0 := nameR_bad_ne (by decide) hnm
        clear hnm
        refine hcall.mono ?_
        intro e Wq hO
        obtain ⟨l3', rfl, hRq, hgq⟩ : ∃ l', RGo (.string ⟨#[]⟩) b s l' x (pos s r1 : Nat) Wp e Wq := hO
        have HNq := Lib.hid (HNp.out.call hRq hgq)
        clear hRq hgq hcall
        have a1 := HNq.out.x3.cell 1 _ rfl
        have f1 := HNq.out.x3.free 1
        have l3 := HNq.out.x3.lt
        go_wp2_with fail
        refine Calls.world ?_
        intro Ws hWs
        have hNs : NxS w Ws b s l3' x (pos s r1 : Nat) [.int .i64 3, .string ⟨#[]⟩, .slice none 0 0, .string ⟨#[]⟩, .int .i64 p, .int .i64 li, .int .i64 co] := by rw [hWs]; first | exact HNq.out.set 1 _
        clear hWs
        clear a1 f1 l3
        refine (rblanks_any b s l3' x (pos s r1 : Nat) Ws hNs.rd hs).mono ?_
        rintro e Wt ⟨rfl, hRt, hgt⟩
        have hNt := hNs.call hRt hgt
        have HW := Lib.hid (rwant_bad b s 62 _ x (pos s r1 : Nat) Wt hNt.rd hx0)
        have HNt := Lib.hid hNt
        clear hNt hRt hgt hNs hx0
        go_wp2_with fail
        refine HW.out.mono ?_
        rintro e Wu ⟨rfl, hRu, hgu⟩
        have hNr := HNt.out.call hRu hgu
        clear hRu hgu HW
        have z0 := hNr.x3.cell 0 _ rfl
        have z1 := hNr.x3.cell 1 _ rfl
        have z2 := hNr.x3.cell 2 _ rfl
        have z3 := hNr.x3.cell 3 _ rfl
        have z4 := hNr.x3.cell 4 _ rfl
        have z5 := hNr.x3.cell 5 _ rfl
        have z6 := hNr.x3.cell 6 _ rfl
        have l3 := hNr.x3.lt
        have HNF := Lib.hid hNr
        clear hNr
        go_wp2_with ((with_reducible show wpList _ _ _ (Oper.mk none (Op.store 34 (.tmp 2) (.tmp 101)) _ _ _ _ :: _) _ _); refine wpList_store_box rfl 34 (.tmp 2) (.tmp 101) rfl w.heap.size zero7 [.int .i64 3, .string ⟨#[]⟩, .slice none 0 0, .string ⟨#[]⟩, .int .i64 p, .int .i64 li, .int .i64 co] rfl rfl HNF.out.x2 rfl size_tok (by simp [Value.oneCell']) ?_; intro W9 v9 hg9)
        obtain ⟨hR9, hG9⟩ := HNF.out.done hg9
        have HR9 := Lib.hid hR9
        have HG9 := Lib.hid hG9
        have y0 := v9.cell 0 _ rfl
        have y1 := v9.cell 1 _ rfl
        have y2 := v9.cell 2 _ rfl
        have y3 := v9.cell 3 _ rfl
        have y4 := v9.cell 4 _ rfl
        have y5 := v9.cell 5 _ rfl
        have y6 := v9.cell 6 _ rfl
        clear z0 z1 z2 z3 z4 z5 z6 l3 hR9 hG9
        go_wp2
        refine bodyPost_ret (v := .agg ([.int .i64 3, .string ⟨#[]⟩, .slice none 0 0, .string ⟨#[]⟩, .int .i64 p, .int .i64 li, .int .i64 co]).toArray) (by simp [results, Try.results56, go_sem, y0, y1, y2, y3, y4, y5, y6]) rfl ?_
        rw [HO.out, show closeR l2 = .bad x r1 by unfold closeR; rw [HNM.out]; rfl]
        exact ⟨_, _, _, _, _, _, _, rfl, HR9.out, HG9.out⟩
      | ok nm r1 =>
        rw [hnm] at hcall
        have HNM := Lib.hid hnm
        clear hnm
        refine hcall.mono ?_
        intro e Wq hO
        obtain ⟨rfl, hRq, hgq⟩ : RGo (.string (bs nm)) b s r1 0 0 Wp e Wq := hO
        have HNq := Lib.hid (HNp.out.call hRq hgq)
        clear hRq hgq hcall
        have a1 := HNq.out.x3.cell 1 _ rfl
        have f1 := HNq.out.x3.free 1
        have l3 := HNq.out.x3.lt
        go_wp2_with fail
        refine Calls.world ?_
        intro Ws hWs
        have hNs : NxS w Ws b s r1 0 0 [.int .i64 3, .string (bs nm), .slice none 0 0, .string ⟨#[]⟩, .int .i64 p, .int .i64 li, .int .i64 co] := by rw [hWs]; first | exact HNq.out.set 1 _
        clear hWs
        clear a1 f1 l3
        refine (rblanks_any b s r1 0 0 Ws hNs.rd hs).mono ?_
        rintro e Wt ⟨rfl, hRt, hgt⟩
        have hNt := hNs.call hRt hgt
        have hcall : Calls Try.prog 93 #[.pointer (some ⟨b, 0, none⟩), .int .u8 62] Wt _ := rwant_any b s 62 _ Wt hNt.rd hs
        have HNt := Lib.hid hNt
        clear hNt hRt hgt hNs
        cases hwt : wantC 62 (blanks r1) with
        | bad x r2 =>
          rw [hwt] at hcall
          have HWT := Lib.hid hwt
          have HCL := Lib.hid hcall
          clear hwt hcall
          go_wp2_with fail
          refine HCL.out.mono ?_
          intro e Wu hO
          obtain ⟨l4, rfl, hRu, hgu⟩ : ∃ l', RGo (.tuple #[]) b s l' x (pos s r2 : Nat) Wt e Wu := hO
          have hNr := HNt.out.call hRu hgu
          clear hRu hgu HCL
          have z0 := hNr.x3.cell 0 _ rfl
          have z1 := hNr.x3.cell 1 _ rfl
          have z2 := hNr.x3.cell 2 _ rfl
          have z3 := hNr.x3.cell 3 _ rfl
          have z4 := hNr.x3.cell 4 _ rfl
          have z5 := hNr.x3.cell 5 _ rfl
          have z6 := hNr.x3.cell 6 _ rfl
          have l3 := hNr.x3.lt
          have HNF := Lib.hid hNr
          clear hNr
          go_wp2_with ((with_reducible show wpList _ _ _ (Oper.mk none (Op.store 34 (.tmp 2) (.tmp 101)) _ _ _ _ :: _) _ _); refine wpList_store_box rfl 34 (.tmp 2) (.tmp 101) rfl w.heap.size zero7 [.int .i64 3, .string (bs nm), .slice none 0 0, .string ⟨#[]⟩, .int .i64 p, .int .i64 li, .int .i64 co] rfl rfl HNF.out.x2 rfl size_tok (by simp [Value.oneCell']) ?_; intro W9 v9 hg9)
          obtain ⟨hR9, hG9⟩ := HNF.out.done hg9
          have HR9 := Lib.hid hR9
          have HG9 := Lib.hid hG9
          have y0 := v9.cell 0 _ rfl
          have y1 := v9.cell 1 _ rfl
          have y2 := v9.cell 2 _ rfl
          have y3 := v9.cell 3 _ rfl
          have y4 := v9.cell 4 _ rfl
          have y5 := v9.cell 5 _ rfl
          have y6 := v9.cell 6 _ rfl
          clear z0 z1 z2 z3 z4 z5 z6 l3 hR9 hG9
          go_wp2
          refine bodyPost_ret (v := .agg ([.int .i64 3, .string (bs nm), .slice none 0 0, .string ⟨#[]⟩, .int .i64 p, .int .i64 li, .int .i64 co]).toArray) (by simp [results, Try.results56, go_sem, y0, y1, y2, y3, y4, y5, y6]) rfl ?_
          rw [HO.out, show closeR l2 = .bad x r2 by unfold closeR; rw [HNM.out]; simp only [Res.bind]; rw [HWT.out]; rfl]
          exact ⟨_, _, _, _, _, _, _, rfl, HR9.out, HG9.out⟩
        | ok u r2 =>
          rw [hwt] at hcall
          have HWT := Lib.hid hwt
          have HCL := Lib.hid hcall
          clear hwt hcall
          go_wp2_with fail
          refine HCL.out.mono ?_
          intro e Wu hO
          obtain ⟨rfl, hRu, hgu⟩ : RGo (.tuple #[]) b s r2 0 0 Wt e Wu := hO
          have hNr := HNt.out.call hRu hgu
          clear hRu hgu HCL
          have z0 := hNr.x3.cell 0 _ rfl
          have z1 := hNr.x3.cell 1 _ rfl
          have z2 := hNr.x3.cell 2 _ rfl
          have z3 := hNr.x3.cell 3 _ rfl
          have z4 := hNr.x3.cell 4 _ rfl
          have z5 := hNr.x3.cell 5 _ rfl
          have z6 := hNr.x3.cell 6 _ rfl
          have l3 := hNr.x3.lt
          have HNF := Lib.hid hNr
          clear hNr
          go_wp2_with ((with_reducible show wpList _ _ _ (Oper.mk none (Op.store 34 (.tmp 2) (.tmp 101)) _ _ _ _ :: _) _ _); refine wpList_store_box rfl 34 (.tmp 2) (.tmp 101) rfl w.heap.size zero7 [.int .i64 3, .string (bs nm), .slice none 0 0, .string ⟨#[]⟩, .int .i64 p, .int .i64 li, .int .i64 co] rfl rfl HNF.out.x2 rfl size_tok (by simp [Value.oneCell']) ?_; intro W9 v9 hg9)
          obtain ⟨hR9, hG9⟩ := HNF.out.done hg9
          have HR9 := Lib.hid hR9
          have HG9 := Lib.hid hG9
          have y0 := v9.cell 0 _ rfl
          have y1 := v9.cell 1 _ rfl
          have y2 := v9.cell 2 _ rfl
          have y3 := v9.cell 3 _ rfl
          have y4 := v9.cell 4 _ rfl
          have y5 := v9.cell 5 _ rfl
          have y6 := v9.cell 6 _ rfl
          clear z0 z1 z2 z3 z4 z5 z6 l3 hR9 hG9
          go_wp2
          refine bodyPost_ret (v := .agg ([.int .i64 3, .string (bs nm), .slice none 0 0, .string ⟨#[]⟩, .int .i64 p, .int .i64 li, .int .i64 co]).toArray) (by simp [results, Try.results56, go_sem, y0, y1, y2, y3, y4, y5, y6]) rfl ?_
          rw [HO.out, show closeR l2 = .ok ⟨3, nm, [], []⟩ r2 by unfold closeR; rw [HNM.out]; simp only [Res.bind]; rw [HWT.out]; rfl]
          exact ⟨_, ⟨rfl, HR9.out, HG9.out⟩, Owns.nil⟩
    have e47 : (((((atV l1 0).toNat : Nat) : Int) == 47)) = false := ne_u8 (c := 47) h47
    have HO : Hid (tokenR first (60 :: l1) = openR l1) := tokenR_open Hq1.out Hq2.out Hhd.out h47
    clear h47
    generalize hz1 : atV l1 0 = z1 at *
    clear hz1
    have a0 := HN7.out.x3.cell 0 _ rfl
    have f0 := HN7.out.x3.free 0
    have l3 := HN7.out.x3.lt
    go_wp2_with fail
    refine Calls.world ?_
    intro Wp hWp
    have hNp : NxS w Wp b s l1 0 0 [.int .i64 1, .string ⟨#[]⟩, .slice none 0 0, .string ⟨#[]⟩, .int .i64 p, .int .i64 li, .int .i64 co] := by rw [hWp]; first | exact HN7.out.set 0 _
    clear hWp
    clear a0 f0 l3 e47
    have hcall := rrname_any b s 11 l1 Wp hNp.rd hs
    have HNp := Lib.hid hNp
    clear hNp
    cases hnm : nameR 11 l1 with
    | bad x r1 =>
      rw [hnm] at hcall
      have HNM := Lib.hid hnm
      have hx0 : x ≠ 0 := nameR_bad_ne (by decide) hnm
      have e0 : (x == 0) = false := beq_eq_false_iff_ne.2 hx0
      have HX0 := Lib.hid hx0
      clear hnm hx0
      refine hcall.mono ?_
      intro e Wq hO
      obtain ⟨l3', rfl, hRq, hgq⟩ : ∃ l', RGo (.string ⟨#[]⟩) b s l' x (pos s r1 : Nat) Wp e Wq := hO
      have HNq := Lib.hid (HNp.out.call hRq hgq)
      clear hRq hgq hcall
      have a1 := HNq.out.x3.cell 1 _ rfl
      have f1 := HNq.out.x3.free 1
      have l3 := HNq.out.x3.lt
      go_wp2_with fail
      refine Calls.world ?_
      intro Ws hWs
      have hNs : NxS w Ws b s l3' x (pos s r1 : Nat) [.int .i64 1, .string ⟨#[]⟩, .slice none 0 0, .string ⟨#[]⟩, .int .i64 p, .int .i64 li, .int .i64 co] := by rw [hWs]; first | exact HNq.out.set 1 _
      clear hWs
      clear a1 f1 l3
      refine (rattrs_bad b s l3' x (pos s r1 : Nat) Ws hNs.rd HX0.out).mono ?_
      rintro e Wt ⟨rfl, hRt, hgt⟩
      have HNt := Lib.hid (hNs.call hRt hgt)
      clear hRt hgt hNs
      have c2 := HNt.out.rd.c2
      have hlt := HNt.out.rd.box.lt
      have a2 := HNt.out.x3.cell 2 _ rfl
      have f2 := HNt.out.x3.free 2
      have l3 := HNt.out.x3.lt
      go_upto_region 32 with fail
      refine wp_world ?_
      intro Wv hWv
      have hNv : NxS w Wv b s l3' x (pos s r1 : Nat) [.int .i64 1, .string ⟨#[]⟩, .slice none 0 0, .string ⟨#[]⟩, .int .i64 p, .int .i64 li, .int .i64 co] := by rw [hWv]; exact HNt.out.set 2 _
      clear hWv
      clear a2 f2 l3 c2 hlt
      have c2 := hNv.rd.c2
      have hlt := hNv.rd.box.lt
      go_wp2_with fail
      refine (rwant_bad b s 62 _ x (pos s r1 : Nat) Wv hNv.rd HX0.out).mono ?_
      rintro e Wu ⟨rfl, hRu, hgu⟩
      have hNr := hNv.call hRu hgu
      clear hRu hgu hNv
      have z0 := hNr.x3.cell 0 _ rfl
      have z1 := hNr.x3.cell 1 _ rfl
      have z2 := hNr.x3.cell 2 _ rfl
      have z3 := hNr.x3.cell 3 _ rfl
      have z4 := hNr.x3.cell 4 _ rfl
      have z5 := hNr.x3.cell 5 _ rfl
      have z6 := hNr.x3.cell 6 _ rfl
      have l3 := hNr.x3.lt
      have HNF := Lib.hid hNr
      clear hNr
      go_wp2_with ((with_reducible show wpList _ _ _ (Oper.mk none (Op.store 34 (.tmp 2) (.tmp 129)) _ _ _ _ :: _) _ _); refine wpList_store_box rfl 34 (.tmp 2) (.tmp 129) rfl w.heap.size zero7 [.int .i64 1, .string ⟨#[]⟩, .slice none 0 0, .string ⟨#[]⟩, .int .i64 p, .int .i64 li, .int .i64 co] rfl rfl HNF.out.x2 rfl size_tok (by simp [Value.oneCell']) ?_; intro W9 v9 hg9)
      obtain ⟨hR9, hG9⟩ := HNF.out.done hg9
      have HR9 := Lib.hid hR9
      have HG9 := Lib.hid hG9
      have y0 := v9.cell 0 _ rfl
      have y1 := v9.cell 1 _ rfl
      have y2 := v9.cell 2 _ rfl
      have y3 := v9.cell 3 _ rfl
      have y4 := v9.cell 4 _ rfl
      have y5 := v9.cell 5 _ rfl
      have y6 := v9.cell 6 _ rfl
      clear z0 z1 z2 z3 z4 z5 z6 l3 hR9 hG9
      go_wp2
      refine bodyPost_ret (v := .agg ([.int .i64 1, .string ⟨#[]⟩, .slice none 0 0, .string ⟨#[]⟩, .int .i64 p, .int .i64 li, .int .i64 co]).toArray) (by simp [results, Try.results56, go_sem, y0, y1, y2, y3, y4, y5, y6]) rfl ?_
      rw [HO.out, show openR l1 = .bad x r1 by unfold openR; rw [HNM.out]; rfl]
      exact ⟨_, _, _, _, _, _, _, rfl, HR9.out, HG9.out⟩
    | ok nm r1 =>
      rw [hnm] at hcall
      have HNM := Lib.hid hnm
      clear hnm
      refine hcall.mono ?_
      intro e Wq hO
      obtain ⟨rfl, hRq, hgq⟩ : RGo (.string (bs nm)) b s r1 0 0 Wp e Wq := hO
      have HNq := Lib.hid (HNp.out.call hRq hgq)
      clear hRq hgq hcall
      have a1 := HNq.out.x3.cell 1 _ rfl
      have f1 := HNq.out.x3.free 1
      have l3 := HNq.out.x3.lt
      go_wp2_with fail
      refine Calls.world ?_
      intro Ws hWs
      have hNs : NxS w Ws b s r1 0 0 [.int .i64 1, .string (bs nm), .slice none 0 0, .string ⟨#[]⟩, .int .i64 p, .int .i64 li, .int .i64 co] := by rw [hWs]; first | exact HNq.out.set 1 _
      clear hWs
      clear a1 f1 l3
      have hcall := rattrs_any b s r1 Ws hNs.rd hs
      have hsB1 := hNs.x3.lt
      have hsB2 := hNs.rd.box.lt
      have HNs := Lib.hid hNs
      clear hNs
      obtain ⟨B, hB⟩ : ∃ B, B = Ws.heap.size := ⟨_, rfl⟩
      rw [← hB] at hsB1 hsB2
      have HB := Lib.hid hB
      clear hB
      cases hat : attrsR r1 with
      | bad x r2 =>
        rw [hat] at hcall
        have HAT2 := Lib.hid hat
        have hx0 : x ≠ 0 := attrsR_bad_ne hat
        have e0 : (x == 0) = false := beq_eq_false_iff_ne.2 hx0
        have HX0 := Lib.hid hx0
        clear hat hx0
        refine hcall.mono ?_
        intro e Wt hO
        obtain ⟨l4, rfl, hRt, hgt⟩ : ∃ l', RGo (.slice none 0 0) b s l' x (pos s r2 : Nat) Ws e Wt := hO
        have HNt := Lib.hid (HNs.out.call hRt hgt)
        clear hRt hgt hcall
        have c2 := HNt.out.rd.c2
        have hlt := HNt.out.rd.box.lt
        have a2 := HNt.out.x3.cell 2 _ rfl
        have f2 := HNt.out.x3.free 2
        have l3 := HNt.out.x3.lt
        go_upto_region 32 with fail
        refine wp_world ?_
        intro Wv hWv
        have hNv : NxS w Wv b s l4 x (pos s r2 : Nat) [.int .i64 1, .string (bs nm), .slice none 0 0, .string ⟨#[]⟩, .int .i64 p, .int .i64 li, .int .i64 co] := by rw [hWv]; exact HNt.out.set 2 _
        clear hWv
        clear a2 f2 l3 c2 hlt
        have c2 := hNv.rd.c2
        have hlt := hNv.rd.box.lt
        go_wp2_with fail
        refine (rwant_bad b s 62 _ x (pos s r2 : Nat) Wv hNv.rd HX0.out).mono ?_
        rintro e Wu ⟨rfl, hRu, hgu⟩
        have hNr := hNv.call hRu hgu
        clear hRu hgu hNv
        have z0 := hNr.x3.cell 0 _ rfl
        have z1 := hNr.x3.cell 1 _ rfl
        have z2 := hNr.x3.cell 2 _ rfl
        have z3 := hNr.x3.cell 3 _ rfl
        have z4 := hNr.x3.cell 4 _ rfl
        have z5 := hNr.x3.cell 5 _ rfl
        have z6 := hNr.x3.cell 6 _ rfl
        have l3 := hNr.x3.lt
        have HNF := Lib.hid hNr
        clear hNr
        go_wp2_with ((with_reducible show wpList _ _ _ (Oper.mk none (Op.store 34 (.tmp 2) (.tmp 129)) _ _ _ _ :: _) _ _); refine wpList_store_box rfl 34 (.tmp 2) (.tmp 129) rfl w.heap.size zero7 [.int .i64 1, .string (bs nm), .slice none 0 0, .string ⟨#[]⟩, .int .i64 p, .int .i64 li, .int .i64 co] rfl rfl HNF.out.x2 rfl size_tok (by simp [Value.oneCell']) ?_; intro W9 v9 hg9)
        obtain ⟨hR9, hG9⟩ := HNF.out.done hg9
        have HR9 := Lib.hid hR9
        have HG9 := Lib.hid hG9
        have y0 := v9.cell 0 _ rfl
        have y1 := v9.cell 1 _ rfl
        have y2 := v9.cell 2 _ rfl
        have y3 := v9.cell 3 _ rfl
        have y4 := v9.cell 4 _ rfl
        have y5 := v9.cell 5 _ rfl
        have y6 := v9.cell 6 _ rfl
        clear z0 z1 z2 z3 z4 z5 z6 l3 hR9 hG9
        go_wp2
        refine bodyPost_ret (v := .agg ([.int .i64 1, .string (bs nm), .slice none 0 0, .string ⟨#[]⟩, .int .i64 p, .int .i64 li, .int .i64 co]).toArray) (by simp [results, Try.results56, go_sem, y0, y1, y2, y3, y4, y5, y6]) rfl ?_
        rw [HO.out, show openR l1 = .bad x r2 by unfold openR; rw [HNM.out]; simp only [Res.bind]; rw [HAT2.out]]
        exact ⟨_, _, _, _, _, _, _, rfl, HR9.out, HG9.out⟩
      | ok ats r2 =>
        rw [hat] at hcall
        have HAT2 := Lib.hid hat
        clear hat
        refine hcall.mono ?_
        intro e Wt hO
        obtain ⟨av, ⟨rfl, hRt, hgt⟩, hot⟩ : ∃ v, RGo v b s r2 0 0 Ws e Wt ∧ Owns Ws.heap.size 43 2 atC Wt v ats := hO
        rw [← HB.out] at hot
        obtain ⟨ao, cap, rfl⟩ := hot.shape
        have HNt := Lib.hid (HNs.out.call hRt hgt)
        have HOt := Lib.hid hot
        clear hRt hgt hcall hot
        have c2 := HNt.out.rd.c2
        have hlt := HNt.out.rd.box.lt
        have a2 := HNt.out.x3.cell 2 _ rfl
        have f2 := HNt.out.x3.free 2
        have l3 := HNt.out.x3.lt
        go_upto_region 32 with fail
        refine wp_world ?_
        intro Wv hWv
        have hNv : NxS w Wv b s r2 0 0 [.int .i64 1, .string (bs nm), (.slice ao ats.length cap), .string ⟨#[]⟩, .int .i64 p, .int .i64 li, .int .i64 co] := by rw [hWv]; exact HNt.out.set 2 _
        have HOWv : Hid (Owns B 43 2 atC Wv (.slice ao ats.length cap) ats) := by rw [hWv]; exact HOt.out.keptR (setCell_grown _ _ _ _) hsB1
        clear hWv a2 f2 l3 c2 hlt
        have c2 := hNv.rd.c2
        have hlt := hNv.rd.box.lt
        go_wp2_with fail
        have HA := Lib.hid (rat_any b s r2 0 0 0 Wv hNv.rd hs (by omega))
        have HNv := Lib.hid hNv
        clear hNv
        refine HA.out.mono ?_
        rintro e Wx ⟨rfl, nx, hWx⟩
        have HNx : Hid (NxS w Wx b s r2 0 0 [.int .i64 1, .string (bs nm), (.slice ao ats.length cap), .string ⟨#[]⟩, .int .i64 p, .int .i64 li, .int .i64 co]) := by rw [hWx]; exact HNv.out.drewN _
        have HOx : Hid (Owns B 43 2 atC Wx (.slice ao ats.length cap) ats) := by rw [hWx]; exact HOWv.out.keptR (grownN Wv _ (some b)) hsB2
        clear hWx HA HNv HOWv
        by_cases h47 : atV r2 0 = 47
        · have e47 : (((((atV r2 0).toNat : Nat) : Int) == 47)) = true := by rw [h47]; decide
          obtain ⟨r3, rfl⟩ : ∃ r3, r2 = 47 :: r3 := by
            cases r2 with
            | nil => exact absurd h47 (by decide)
            | cons c l2 => exact ⟨l2, by rw [show c = 47 from h47]⟩
          have HOP : Hid (openR l1 = (wantC 62 r3).map fun _ => ⟨2, nm, ats, []⟩) := by
            show _ = _
            unfold openR; rw [HNM.out]; simp only [Res.bind]; rw [HAT2.out]; rfl
          clear h47
          generalize hz2 : atV (47 :: r3) 0 = z2 at *
          clear hz2
          have c1 := HNx.out.rd.c1
          have f1 := HNx.out.rd.box.free 1
          have hlt := HNx.out.rd.box.lt
          have HtC := Lib.hid (pos_cons HNx.out.rd.suf)
          have HtS := Lib.hid (suf_tail HNx.out.rd.suf)
          have tlt := pos_lt HNx.out.rd.suf
          have a0 := HNx.out.x3.cell 0 _ rfl
          have f0 := HNx.out.x3.free 0
          have l3 := HNx.out.x3.lt
          generalize hp1 : pos s (47 :: r3) = p1 at *
          have HP1 := Lib.hid hp1
          clear hp1
          have hpi1 : (p1 : Int) + 1 ≤ 1000000 := by omega
          go_wp2_with fail
          refine Calls.world ?_
          intro Wy hWy
          have hNy : NxS w Wy b s r3 0 0 [.int .i64 2, .string (bs nm), (.slice ao ats.length cap), .string ⟨#[]⟩, .int .i64 p, .int .i64 li, .int .i64 co] := by rw [hWy]; first | exact (HNx.out.set 0 _).move HtS.out (by rw [HtC.out]; rfl)
          have HOWy : Hid (Owns B 43 2 atC Wy (.slice ao ats.length cap) ats) := by rw [hWy]; first | exact (HOx.out.keptR (setCell_grown _ _ _ _) hsB1).keptR (setCell_grown _ _ _ _) hsB2
          clear hWy
          clear c1 f1 hlt a0 f0 l3 e47
          have hcall : Calls Try.prog 93 #[.pointer (some ⟨b, 0, none⟩), .int .u8 62] Wy _ := rwant_any b s 62 r3 Wy hNy.rd hs
          have HNy := Lib.hid hNy
          clear hNy
          cases hwt : wantC 62 r3 with
          | bad x r4 =>
            rw [hwt] at hcall
            have HWT := Lib.hid hwt
            clear hwt
            refine hcall.mono ?_
            intro e Wu hO
            obtain ⟨l4, rfl, hRu, hgu⟩ : ∃ l', RGo (.tuple #[]) b s l' x (pos s r4 : Nat) Wy e Wu := hO
            have hNr := HNy.out.call hRu hgu
            clear hRu hgu hcall
            have z0 := hNr.x3.cell 0 _ rfl
            have z1 := hNr.x3.cell 1 _ rfl
            have z2 := hNr.x3.cell 2 _ rfl
            have z3 := hNr.x3.cell 3 _ rfl
            have z4 := hNr.x3.cell 4 _ rfl
            have z5 := hNr.x3.cell 5 _ rfl
            have z6 := hNr.x3.cell 6 _ rfl
            have l3 := hNr.x3.lt
            have HNF := Lib.hid hNr
            clear hNr
            go_wp2_with ((with_reducible show wpList _ _ _ (Oper.mk none (Op.store 34 (.tmp 2) (.tmp 129)) _ _ _ _ :: _) _ _); refine wpList_store_box rfl 34 (.tmp 2) (.tmp 129) rfl w.heap.size zero7 [.int .i64 2, .string (bs nm), (.slice ao ats.length cap), .string ⟨#[]⟩, .int .i64 p, .int .i64 li, .int .i64 co] rfl rfl HNF.out.x2 rfl size_tok (by simp [Value.oneCell']) ?_; intro W9 v9 hg9)
            obtain ⟨hR9, hG9⟩ := HNF.out.done hg9
            have HR9 := Lib.hid hR9
            have HG9 := Lib.hid hG9
            have y0 := v9.cell 0 _ rfl
            have y1 := v9.cell 1 _ rfl
            have y2 := v9.cell 2 _ rfl
            have y3 := v9.cell 3 _ rfl
            have y4 := v9.cell 4 _ rfl
            have y5 := v9.cell 5 _ rfl
            have y6 := v9.cell 6 _ rfl
            clear z0 z1 z2 z3 z4 z5 z6 l3 hR9 hG9
            go_wp2
            refine bodyPost_ret (v := .agg ([.int .i64 2, .string (bs nm), (.slice ao ats.length cap), .string ⟨#[]⟩, .int .i64 p, .int .i64 li, .int .i64 co]).toArray) (by simp [results, Try.results56, go_sem, y0, y1, y2, y3, y4, y5, y6]) rfl ?_
            rw [HO.out, HOP.out, HWT.out]
            exact ⟨_, _, _, _, _, _, _, rfl, HR9.out, HG9.out⟩
          | ok u r4 =>
            rw [hwt] at hcall
            have HWT := Lib.hid hwt
            clear hwt
            refine hcall.mono ?_
            intro e Wu hO
            obtain ⟨rfl, hRu, hgu⟩ : RGo (.tuple #[]) b s r4 0 0 Wy e Wu := hO
            have hNr := HNy.out.call hRu hgu
            have HOu := Lib.hid (HOWy.out.keptR hgu hsB2)
            clear hRu hgu hcall
            have z0 := hNr.x3.cell 0 _ rfl
            have z1 := hNr.x3.cell 1 _ rfl
            have z2 := hNr.x3.cell 2 _ rfl
            have z3 := hNr.x3.cell 3 _ rfl
            have z4 := hNr.x3.cell 4 _ rfl
            have z5 := hNr.x3.cell 5 _ rfl
            have z6 := hNr.x3.cell 6 _ rfl
            have l3 := hNr.x3.lt
            have HNF := Lib.hid hNr
            clear hNr
            go_wp2_with ((with_reducible show wpList _ _ _ (Oper.mk none (Op.store 34 (.tmp 2) (.tmp 129)) _ _ _ _ :: _) _ _); refine wpList_store_box rfl 34 (.tmp 2) (.tmp 129) rfl w.heap.size zero7 [.int .i64 2, .string (bs nm), (.slice ao ats.length cap), .string ⟨#[]⟩, .int .i64 p, .int .i64 li, .int .i64 co] rfl rfl HNF.out.x2 rfl size_tok (by simp [Value.oneCell']) ?_; intro W9 v9 hg9)
            obtain ⟨hR9, hG9⟩ := HNF.out.done hg9
            have HR9 := Lib.hid hR9
            have HG9 := Lib.hid hG9
            have y0 := v9.cell 0 _ rfl
            have y1 := v9.cell 1 _ rfl
            have y2 := v9.cell 2 _ rfl
            have y3 := v9.cell 3 _ rfl
            have y4 := v9.cell 4 _ rfl
            have y5 := v9.cell 5 _ rfl
            have y6 := v9.cell 6 _ rfl
            clear z0 z1 z2 z3 z4 z5 z6 l3 hR9 hG9
            go_wp2
            refine bodyPost_ret (v := .agg ([.int .i64 2, .string (bs nm), (.slice ao ats.length cap), .string ⟨#[]⟩, .int .i64 p, .int .i64 li, .int .i64 co]).toArray) (by simp [results, Try.results56, go_sem, y0, y1, y2, y3, y4, y5, y6]) rfl ?_
            rw [HO.out, HOP.out, HWT.out]
            exact ⟨_, ⟨rfl, HR9.out, HG9.out⟩, (HOu.out.keptR hg9 (by omega)).base_mono (by omega)⟩
        have e47 : (((((atV r2 0).toNat : Nat) : Int) == 47)) = false := ne_u8 (c := 47) h47
        have HOP : Hid (openR l1 = (wantC 62 r2).map fun _ => ⟨1, nm, ats, []⟩) := by
          show _ = _
          unfold openR; rw [HNM.out]; simp only [Res.bind]; rw [HAT2.out]
          exact openR_end h47
        clear h47
        generalize hz2 : atV r2 0 = z2 at *
        clear hz2
        go_wp2_with fail
        refine Calls.world ?_
        intro Wy hWy
        have hNy : NxS w Wy b s r2 0 0 [.int .i64 1, .string (bs nm), (.slice ao ats.length cap), .string ⟨#[]⟩, .int .i64 p, .int .i64 li, .int .i64 co] := by rw [hWy]; first | exact HNx.out
        have HOWy : Hid (Owns B 43 2 atC Wy (.slice ao ats.length cap) ats) := by rw [hWy]; first | exact HOx.out
        clear hWy
        clear e47
        have hcall : Calls Try.prog 93 #[.pointer (some ⟨b, 0, none⟩), .int .u8 62] Wy _ := rwant_any b s 62 r2 Wy hNy.rd hs
        have HNy := Lib.hid hNy
        clear hNy
        cases hwt : wantC 62 r2 with
        | bad x r4 =>
          rw [hwt] at hcall
          have HWT := Lib.hid hwt
          clear hwt
          refine hcall.mono ?_
          intro e Wu hO
          obtain ⟨l4, rfl, hRu, hgu⟩ : ∃ l', RGo (.tuple #[]) b s l' x (pos s r4 : Nat) Wy e Wu := hO
          have hNr := HNy.out.call hRu hgu
          clear hRu hgu hcall
          have z0 := hNr.x3.cell 0 _ rfl
          have z1 := hNr.x3.cell 1 _ rfl
          have z2 := hNr.x3.cell 2 _ rfl
          have z3 := hNr.x3.cell 3 _ rfl
          have z4 := hNr.x3.cell 4 _ rfl
          have z5 := hNr.x3.cell 5 _ rfl
          have z6 := hNr.x3.cell 6 _ rfl
          have l3 := hNr.x3.lt
          have HNF := Lib.hid hNr
          clear hNr
          go_wp2_with ((with_reducible show wpList _ _ _ (Oper.mk none (Op.store 34 (.tmp 2) (.tmp 129)) _ _ _ _ :: _) _ _); refine wpList_store_box rfl 34 (.tmp 2) (.tmp 129) rfl w.heap.size zero7 [.int .i64 1, .string (bs nm), (.slice ao ats.length cap), .string ⟨#[]⟩, .int .i64 p, .int .i64 li, .int .i64 co] rfl rfl HNF.out.x2 rfl size_tok (by simp [Value.oneCell']) ?_; intro W9 v9 hg9)
          obtain ⟨hR9, hG9⟩ := HNF.out.done hg9
          have HR9 := Lib.hid hR9
          have HG9 := Lib.hid hG9
          have y0 := v9.cell 0 _ rfl
          have y1 := v9.cell 1 _ rfl
          have y2 := v9.cell 2 _ rfl
          have y3 := v9.cell 3 _ rfl
          have y4 := v9.cell 4 _ rfl
          have y5 := v9.cell 5 _ rfl
          have y6 := v9.cell 6 _ rfl
          clear z0 z1 z2 z3 z4 z5 z6 l3 hR9 hG9
          go_wp2
          refine bodyPost_ret (v := .agg ([.int .i64 1, .string (bs nm), (.slice ao ats.length cap), .string ⟨#[]⟩, .int .i64 p, .int .i64 li, .int .i64 co]).toArray) (by simp [results, Try.results56, go_sem, y0, y1, y2, y3, y4, y5, y6]) rfl ?_
          rw [HO.out, HOP.out, HWT.out]
          exact ⟨_, _, _, _, _, _, _, rfl, HR9.out, HG9.out⟩
        | ok u r4 =>
          rw [hwt] at hcall
          have HWT := Lib.hid hwt
          clear hwt
          refine hcall.mono ?_
          intro e Wu hO
          obtain ⟨rfl, hRu, hgu⟩ : RGo (.tuple #[]) b s r4 0 0 Wy e Wu := hO
          have hNr := HNy.out.call hRu hgu
          have HOu := Lib.hid (HOWy.out.keptR hgu hsB2)
          clear hRu hgu hcall
          have z0 := hNr.x3.cell 0 _ rfl
          have z1 := hNr.x3.cell 1 _ rfl
          have z2 := hNr.x3.cell 2 _ rfl
          have z3 := hNr.x3.cell 3 _ rfl
          have z4 := hNr.x3.cell 4 _ rfl
          have z5 := hNr.x3.cell 5 _ rfl
          have z6 := hNr.x3.cell 6 _ rfl
          have l3 := hNr.x3.lt
          have HNF := Lib.hid hNr
          clear hNr
          go_wp2_with ((with_reducible show wpList _ _ _ (Oper.mk none (Op.store 34 (.tmp 2) (.tmp 129)) _ _ _ _ :: _) _ _); refine wpList_store_box rfl 34 (.tmp 2) (.tmp 129) rfl w.heap.size zero7 [.int .i64 1, .string (bs nm), (.slice ao ats.length cap), .string ⟨#[]⟩, .int .i64 p, .int .i64 li, .int .i64 co] rfl rfl HNF.out.x2 rfl size_tok (by simp [Value.oneCell']) ?_; intro W9 v9 hg9)
          obtain ⟨hR9, hG9⟩ := HNF.out.done hg9
          have HR9 := Lib.hid hR9
          have HG9 := Lib.hid hG9
          have y0 := v9.cell 0 _ rfl
          have y1 := v9.cell 1 _ rfl
          have y2 := v9.cell 2 _ rfl
          have y3 := v9.cell 3 _ rfl
          have y4 := v9.cell 4 _ rfl
          have y5 := v9.cell 5 _ rfl
          have y6 := v9.cell 6 _ rfl
          clear z0 z1 z2 z3 z4 z5 z6 l3 hR9 hG9
          go_wp2
          refine bodyPost_ret (v := .agg ([.int .i64 1, .string (bs nm), (.slice ao ats.length cap), .string ⟨#[]⟩, .int .i64 p, .int .i64 li, .int .i64 co]).toArray) (by simp [results, Try.results56, go_sem, y0, y1, y2, y3, y4, y5, y6]) rfl ?_
          rw [HO.out, HOP.out, HWT.out]
          exact ⟨_, ⟨rfl, HR9.out, HG9.out⟩, (HOu.out.keptR hg9 (by omega)).base_mono (by omega)⟩

end Go.Proofs.Ytpchljiiappmnaa

/- The walk of the document's All; the conditions stand in the theorem. -/
namespace Go.Proofs.Ytpchljiiappmnaa
open Go Go.RowKit

/-- What the document's All returns. -/
def RAllOut (s : S) (w : World) : Res (List (Tk × Bs)) → Ending → World → Prop
  | .ok acc _ => fun e w' => ∃ ov L, e = .returned (.tuple #[ov, .int .i64 0, .int .i64 0]) ∧ TokSl w.heap.size w' s ov L acc ∧ Below w.heap.size w w'
  | .bad x r => fun e w' => e = .returned (.tuple #[.slice none 0 0, .int .i64 x, .int .i64 (pos s r : Nat)]) ∧ Below w.heap.size w w'

/-- What the document's loop over tokens has done so far. -/
structure RAll (w wr : World) (s : S) (v : Value) (l : Bs) (acc : List (Tk × Bs)) (f : Nat) (first : Bool) (L : List TkM) : Prop where
  rd : RR wr w.heap.size s l 0 0
  below : Below w.heap.size w wr
  sl : TokSl (w.heap.size + 1) wr s v L acc
  spec : allR s.data.toList = allGo f first acc l
  fuel : l.length ≤ f
  len : acc.length + l.length ≤ s.size
  fst : first = decide (pos s l = 0)

theorem TokSl.base_mono {b b' : Nat} {w : World} {s : S} {v : Value} {L : List TkM} {acc : List (Tk × Bs)} (h : TokSl b w s v L acc) (hb : b' ≤ b) : TokSl b' w s v L acc :=
  ⟨h.own.base_mono hb, fun x hx => (h.att x hx).base_mono hb, h.is⟩

theorem tkC_one' {x : TkM} {ao : Option Addr} {m c : Nat} (h : x.av = .slice ao m c) : ∀ u ∈ tkC x, u.oneCell' = true := by
  intro u hu; simp [tkC] at hu; rcases hu with rfl | rfl | rfl | rfl | rfl | rfl | rfl <;> first | rfl | (rw [h]; rfl)

theorem allGo_ok {f : Nat} {first : Bool} {acc : List (Tk × Bs)} {l r : Bs} {t : Tk} (h : tokenR first l = .ok t r) (hl : l ≠ []) (hf : l.length ≤ f) : allGo f first acc l = allGo (f - 1) false (acc ++ [(t, l)]) r := by
  cases l with
  | nil => exact absurd rfl hl
  | cons c l =>
    cases f with
    | zero => simp at hf
    | succ f => simp only [allGo]; rw [h]; rfl
theorem allGo_bad {f : Nat} {first : Bool} {acc : List (Tk × Bs)} {l r : Bs} {e : Int} (h : tokenR first l = .bad e r) (hl : l ≠ []) (hf : l.length ≤ f) : allGo f first acc l = .bad e r := by
  cases l with
  | nil => exact absurd rfl hl
  | cons c l =>
    cases f with
    | zero => simp at hf
    | succ f => simp only [allGo]; rw [h]
theorem tokenR_bad_ne {first : Bool} {l r : Bs} {x : Int} (h : tokenR first l = .bad x r) : x ≠ 0 := by
  have hp : ∀ {til l r : Bs} {x : Int}, plain til l = .bad x r → x ≠ 0 := by
    intro til l
    induction l with
    | nil => intro r x h; simp only [plain] at h; split at h <;> cases h; decide
    | cons c l ih =>
      intro r x h
      simp only [plain] at h
      split at h
      · cases h
      · split at h
        · cases hq : plain til l with
          | ok a b => rw [hq] at h; cases h
          | bad e b => rw [hq] at h; cases h; exact ih hq
        · cases h; decide
  have hpm : ∀ {til l r : Bs} {x : Int} {g : Bs → Tk}, (plain til l).map g = .bad x r → x ≠ 0 := by
    intro til l r x g h
    cases hq : plain til l with
    | ok a b => rw [hq] at h; cases h
    | bad e b => rw [hq] at h; cases h; exact hp hq
  have hlm : ∀ {l r : Bs} {x : Int} {g : Bs → Tk}, (letters 60 l).map g = .bad x r → x ≠ 0 := by
    intro l r x g h
    cases hq : letters 60 l with
    | ok a b => rw [hq] at h; cases h
    | bad e b => rw [hq] at h; cases h; exact lettersGo_bad_ne hq
  have hwm : ∀ {l r : Bs} {x : Int} {g : Unit → Tk}, (wantC 62 l).map g = .bad x r → x ≠ 0 := by
    intro l r x g h
    cases hq : wantC 62 l with
    | ok a b => rw [hq] at h; cases h
    | bad e b => rw [hq] at h; cases h; exact wantC_bad_ne hq
  have hc : ∀ {l r : Bs} {x : Int}, closeR l = .bad x r → x ≠ 0 := by
    intro l r x h
    unfold closeR at h
    cases hn : nameR 11 l with
    | bad e b => rw [hn] at h; cases h; exact nameR_bad_ne (by decide) hn
    | ok nm b => rw [hn] at h; exact hwm h
  have ho : ∀ {l r : Bs} {x : Int}, openR l = .bad x r → x ≠ 0 := by
    intro l r x h
    unfold openR at h
    cases hn : nameR 11 l with
    | bad e b => rw [hn] at h; cases h; exact nameR_bad_ne (by decide) hn
    | ok nm b =>
      rw [hn] at h
      simp only [Res.bind] at h
      cases ha : attrsR b with
      | bad e c => rw [ha] at h; cases h; exact attrsR_bad_ne ha
      | ok as' c =>
        rw [ha] at h
        simp only at h
        split at h
        · exact hwm h
        · exact hwm h
  unfold tokenR at h
  split at h
  · exact hpm h
  · split at h
    · exact hpm h
    · split at h
      · exact hpm h
      · split at h
        · exact hc h
        · exact ho h
        · exact hlm h

set_option maxRecDepth 100000 in
set_option maxHeartbeats 8000000 in
theorem rall_any (s : S) (w : World) (hs : s.size ≤ 65536) :
    Calls Try.prog 21 #[.string s] w (RAllOut s w (allR s.data.toList)) := by
  have hsi : ¬ (65536 : Int) < (s.size : Int) := by omega
  have h1 : RR (w.alloc (.cells #[.string s, .int .i64 0, .int .i64 0, .int .i64 0] 81)) w.heap.size s s.data.toList 0 0 :=
    ⟨by have := Box.new w [.string s, .int .i64 0, .int .i64 0, .int .i64 0] 81 _ rfl; rw [show pos s s.data.toList = 0 by unfold pos; rw [size_data]; omega]; exact this, List.suffix_refl _⟩
  have hI : RAll w (w.alloc (.cells #[.string s, .int .i64 0, .int .i64 0, .int .i64 0] 81)) s (.slice none 0 0) s.data.toList [] s.data.toList.length true [] :=
    ⟨h1, (Below.refl _ _).alloc (Nat.le_refl _) _, ⟨Owns.nil, by simp, rfl⟩, rfl, Nat.le_refl _, by simp, by rw [show pos s s.data.toList = 0 by unfold pos; rw [size_data]; omega]; rfl⟩
  have HI := Lib.hid hI
  clear hI h1
  go_enter Try.func21, Try.ntmps21
  go_wp2
  go_loopw [6] (fun v wr => ∃ l acc f first L, RAll w wr s v l acc f first L) (fun _ wr => s.size - (placeOf wr w.heap.size).toNat)
  case atStart => exact ⟨_, _, _, _, _, HI.out⟩
  case round =>
    clear HI
    obtain ⟨l, acc, f, first, L, hL⟩ := hrel
    have HL := Lib.hid hL
    have c1 := hL.rd.c1
    have hlt := hL.rd.box.lt
    have hp := pos_add hL.rd.suf
    have HLL := Lib.hid hL.sl.len
    have hal := hL.len
    have hLb : L.length ≤ 1000000 := by have := HLL.out; omega
    obtain ⟨ao, cap, rfl⟩ := hL.sl.own.shape
    by_cases hnil : l = []
    · subst hnil
      have hp' : pos s [] = s.size := pos_nil s
      rw [hp'] at c1
      clear hp hL hp'
      go_wp2
      go_ret3
      have hO : allR s.data.toList = .ok acc [] := by rw [HL.out.spec]; cases f <;> rfl
      rw [hO]
      exact ⟨_, L, rfl, HL.out.sl.base_mono (by omega), HL.out.below⟩
    · have hne : 0 < l.length := by cases l with | nil => exact absurd rfl hnil | cons c l => simp
      have hcall := rnext_any w.heap.size s l first wr hL.rd (by omega) hL.fst
      have HNIL := Lib.hid hnil
      have hpi : (pos s l : Int) < (s.size : Int) := by omega
      clear hL hnil
      generalize hp0 : pos s l = p at *
      have HP0 := Lib.hid hp0
      clear hp0
      generalize hli : (lineCol (s.data.toList.take p)).1 = li at *
      generalize hco : (lineCol (s.data.toList.take p)).2 = co at *
      have HLI := Lib.hid hli
      have HCO := Lib.hid hco
      clear hli hco
      cases htk : tokenR first l with
      | bad x r =>
        rw [htk] at hcall
        have HTK := Lib.hid htk
        have hx0 : x ≠ 0 := tokenR_bad_ne htk
        have e0 : (x != 0) = true := by rw [bne_iff_ne]; exact hx0
        clear htk hx0
        have HCL := Lib.hid hcall
        clear hcall
        go_wp2_with fail
        refine HCL.out.mono ?_
        intro e W1 hO
        obtain ⟨k, n, ao2, m2, c2', tx, l2, rfl, hR1, hg1⟩ : ∃ k n ao m c tx l', RGo (.agg (tkV k n (.slice ao m c) tx p li co).toArray) w.heap.size s l' x (pos s r : Nat) wr e W1 := hO
        have hsz1 := hg1.size
        have hB1 : Below w.heap.size w W1 := HL.out.below.trans (below_grown hg1 HL.out.below.size)
        unfold tkV
        go_upto_region 7 with fail
        refine wp_world ?_
        intro W2 hW2
        have hR2 : RR W2 w.heap.size s l2 x (pos s r : Nat) := by rw [hW2]; exact hR1.below ((Below.refl _ _).alloc (Nat.le_refl _) _)
        have hB2 : Below w.heap.size w W2 := by rw [hW2]; exact hB1.alloc hB1.size _
        clear hW2 hR1 hB1 c1 hlt hg1
        have c2 := hR2.c2
        have c3 := hR2.c3
        have hlt := hR2.box.lt
        have HB2 := Lib.hid hB2
        clear hR2 hB2 HCL
        go_wp2
        go_quiet (fail)
        go_wp2
        go_ret3
        rw [HL.out.spec, allGo_bad HTK.out HNIL.out HL.out.fuel]
        exact ⟨rfl, belowN HB2.out _⟩
      | ok t r =>
        rw [htk] at hcall
        have HTK := Lib.hid htk
        have hless := tokenR_less htk HNIL.out
        clear htk
        have HCL := Lib.hid hcall
        clear hcall
        go_wp2_with fail
        refine HCL.out.mono ?_
        intro e W1 hO
        obtain ⟨av, ⟨rfl, hR1, hg1⟩, hav⟩ : ∃ av, RGo (.agg (tkV t.kind (bs t.name) av (bs t.text) p li co).toArray) w.heap.size s r 0 0 wr e W1 ∧ Owns wr.heap.size 43 2 atC W1 av t.attrs := hO
        obtain ⟨ao2, cap2, rfl⟩ := hav.shape
        have hsz1 := hg1.size
        have hszw := HL.out.below.size
        have hB1 : Below w.heap.size w W1 := HL.out.below.trans (below_grown hg1 HL.out.below.size)
        have hown1 := HL.out.sl.own.keptR hg1 (by omega)
        have hatt1 : ∀ x ∈ L, Owns (w.heap.size + 1) 43 2 atC W1 x.av x.t.attrs := fun x hx => (HL.out.sl.att x hx).keptR hg1 (by omega)
        have hav1 : Owns (w.heap.size + 1) 43 2 atC W1 (.slice ao2 t.attrs.length cap2) t.attrs := hav.base_mono (by omega)
        unfold tkV
        go_upto_region 7 with fail
        refine wp_world ?_
        intro W2 hW2
        have hR2 : RR W2 w.heap.size s r 0 0 := by rw [hW2]; exact hR1.below ((Below.refl _ _).alloc (Nat.le_refl _) _)
        have hB2 : Below w.heap.size w W2 := by rw [hW2]; exact hB1.alloc hB1.size _
        have hown2 : Owns (w.heap.size + 1) 34 7 tkC W2 (.slice ao L.length cap) L := by rw [hW2]; exact hown1.alloc _
        have hatt2 : ∀ x ∈ L, Owns (w.heap.size + 1) 43 2 atC W2 x.av x.t.attrs := fun x hx => by rw [hW2]; exact (hatt1 x hx).alloc _
        have hav2 : Owns (w.heap.size + 1) 43 2 atC W2 (.slice ao2 t.attrs.length cap2) t.attrs := by rw [hW2]; exact hav1.alloc _
        have hx2 : Box W2 W1.heap.size (tkV t.kind (bs t.name) (.slice ao2 t.attrs.length cap2) (bs t.text) p li co) := by rw [hW2]; exact Box.new W1 _ _ _ rfl
        clear hW2 hR1 hB1 c1 hlt hg1 hown1 hatt1 hav1 hav
        have c2 := hR2.c2
        have hlt := hR2.box.lt
        have hsz2 := hB2.size
        have z0 := hx2.cell 0 _ rfl
        have z1 := hx2.cell 1 _ rfl
        have z2 := hx2.cell 2 _ rfl
        have z3 := hx2.cell 3 _ rfl
        have z4 := hx2.cell 4 _ rfl
        have z5 := hx2.cell 5 _ rfl
        have z6 := hx2.cell 6 _ rfl
        have zl := hx2.lt
        have HR2 := Lib.hid hR2
        have HB2 := Lib.hid hB2
        have HO2 := Lib.hid hown2
        have HA2 := Lib.hid hatt2
        have HV2 := Lib.hid hav2
        clear hR2 hB2 hown2 hatt2 hav2 hx2 HCL
        obtain ⟨x, hx⟩ : ∃ x : TkM, x = ⟨t, .slice ao2 t.attrs.length cap2, p, li, co⟩ := ⟨_, rfl⟩
        have HX := Lib.hid hx
        have HSL : Hid (SliceOf 7 tkC (W2.alloc (.cells #[.int .i64 t.kind, .string (bs t.name), .slice ao2 t.attrs.length cap2, .string (bs t.text), .int .i64 p, .int .i64 li, .int .i64 co] 34)) (.slice (some ⟨W2.heap.size, 0, none⟩) 1 1) [x]) := by
          rw [hx]; exact sliceLit tkC_len W2 [⟨t, .slice ao2 t.attrs.length cap2, p, li, co⟩] _ _ 1 rfl rfl (by simp [maxLen])
        have hone : ∀ u ∈ tkC x, u.oneCell' = true := tkC_one' (by rw [hx])
        have HONE := Lib.hid hone
        clear hx hone
        go_wp2_with (at_builtin; refine wpList_append_slice _ rfl _ _ 23 rfl (w.heap.size + 1) 34 Try.underlying23 info_token rfl (by decide) tkC_len (.slice ao L.length cap) L rfl (HO2.out.alloc _) _ [x] rfl HSL.out (fun y hy => by simp only [List.mem_singleton] at hy; subst hy; exact HONE.out) (by simp; omega) (by decide) (by simp; omega) ?_; intro v8 w8 hown8 hgrow8 hloc8)
        have hb8 := ((Below.refl (w.heap.size + 1) W2).alloc (by omega) (.cells #[.int .i64 t.kind, .string (bs t.name), .slice ao2 t.attrs.length cap2, .string (bs t.text), .int .i64 p, .int .i64 li, .int .i64 co] 34)).grown hgrow8 (by simp; omega) (fun k hk => (HO2.out.lt k hk).1)
        have hnew : RAll w w8 s v8 r (acc ++ [(t, l)]) (f - 1) false (L ++ [x]) := by
          refine ⟨HR2.out.belowB hb8 (by omega), HB2.out.trans (hb8.mono (by omega)), ⟨hown8, fun y hy => ?_, ?_⟩, ?_, ?_, ?_, ?_⟩
          · have h1 : Owns (w.heap.size + 1) 43 2 atC W2 y.av y.t.attrs := by
              rcases List.mem_append.1 hy with h | h
              · exact HA2.out y h
              · simp at h; subst h; rw [HX.out]; exact HV2.out
            exact (h1.alloc _).kept hgrow8 (own_types h1 HO2.out (by decide))
          · rw [List.map_append, List.map_append, HL.out.sl.is, HX.out]
            simp only [List.map_cons, List.map_nil, HP0.out, HLI.out, HCO.out]
          · rw [HL.out.spec, allGo_ok HTK.out HNIL.out HL.out.fuel]
          · have := HL.out.fuel; omega
          · have := HL.out.len; simp; omega
          · have h1 := pos_add HR2.out.suf
            have h2 := pos_add HL.out.rd.suf
            symm; rw [decide_eq_false_iff_not]; omega
        go_wp2
        go_roundw
        case rel => exact ⟨_, _, _, _, _, hnew⟩
        case measure =>
          rw [HL.out.rd.place, hnew.rd.place]
          have := pos_add HL.out.rd.suf
          have := pos_add hnew.rd.suf
          omega

end Go.Proofs.Ytpchljiiappmnaa
