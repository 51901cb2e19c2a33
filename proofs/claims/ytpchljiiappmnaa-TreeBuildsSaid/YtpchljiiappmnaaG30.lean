/- The document's element: its loop; the conditions stand in the theorems. -/
import Derived.Test.YtpchljiiappmnaaG21
import Derived.Test.YtpchljiiappmnaaG4
import Derived.StillTailTactics
import Derived.Deep.CutRange
import Derived.Deep.CutBlock
namespace Go.Proofs.Ytpchljiiappmnaa
open Go Go.RowKit
variable {lo : Nat}

/-- Where the loop of element stands. -/
structure LI (lo B b1 nb : Nat) (lv : Value) (s : S) (st : BSt) (i : Nat) (acc : List (Tk × Bs)) (t : Tk) (P li co : Nat) (av : Value) (w wr : World) (j c : Nat) (kids : List Tr) (tx : Bool) (L : List TrV) (kv : Value) (bad off : Int) : Prop where
  made : Mk lo wr B (w.heap.size + 1) nb ⟨t.name, t.attrs, kids⟩ L av kv
  rb : RB wr B lv j c bad off
  res : Box wr w.heap.size [.string ⟨#[]⟩, .slice none 0 0, .slice none 0 0, .string ⟨#[]⟩]
  tok : Box wr b1 [.int .i64 t.kind, .string (bs t.name), av, .string (bs t.text), .int .i64 P, .int .i64 li, .int .i64 co]
  grown : w.grownBy wr (some B)
  ij : i < j
  jl : j ≤ acc.length
  cj : c ≤ j
  lj : L.length ≤ j
  run : (bad = 0 ∧ (t.kind = 1 → runB st (acc.drop i) = runB ⟨⟨t.name, t.attrs, kids⟩ :: st.stack, none, c, tx⟩ (acc.drop j)) ∧ (t.kind = 2 → runB st (acc.drop i) = runB (closeB ⟨t.name, t.attrs, kids⟩ st.stack none c) (acc.drop j)) ∧ (tx = true → ∃ ks t', kids = ks ++ [t'] ∧ t'.text.length ≤ tmax j)) ∨ (bad ≠ 0 ∧ ∃ r, runB st (acc.drop i) = .bad bad r ∧ off = (pos s r : Nat))

theorem LI.later {B b1 nb : Nat} {lv : Value} {s : S} {st : BSt} {i : Nat} {acc : List (Tk × Bs)} {t : Tk} {P li co : Nat} {av : Value} {w wr W : World} {j c : Nat} {kids : List Tr} {tx : Bool} {L : List TrV} {kv : Value} {bad off : Int} (h : LI lo B b1 nb lv s st i acc t P li co av w wr j c kids tx L kv bad off) (hb : Below wr.heap.size wr W) : LI lo B b1 nb lv s st i acc t P li co av w W j c kids tx L kv bad off :=
  ⟨h.made.below hb, h.rb.below hb h.rb.lt, h.res.below hb h.res.lt, h.tok.below hb h.tok.lt, h.grown.trans (grownOf hb _), h.ij, h.jl, h.cj, h.lj, h.run⟩
theorem grown_high {w W W' : World} {r row : Option Nat} (h : w.grownBy W r) (hg : W.grownBy W' row) (hN : ∀ k, row = some k → w.heap.size ≤ k) : w.grownBy W' r :=
  ⟨hg.os.trans h.os, hg.tape.trans h.tape, hg.output.trans h.output, Nat.le_trans h.size hg.size, fun k hk hne => (hg.block k (Nat.lt_of_lt_of_le hk h.size) (fun e => by have := hN k e.symm; omega)).trans (h.block k hk hne)⟩
/-- A kid is pushed, and what else there is stays. -/
theorem LI.push {B b1 nb : Nat} {lv : Value} {s : S} {st : BSt} {i : Nat} {acc : List (Tk × Bs)} {t : Tk} {P li co : Nat} {av : Value} {w W w8 : World} {kids : List Tr} {L : List TrV} {kv : Value} (hm : Mk lo W B (w.heap.size + 1) nb ⟨t.name, t.attrs, kids⟩ L av kv)
    (hr : Box W w.heap.size [.string ⟨#[]⟩, .slice none 0 0, .slice none 0 0, .string ⟨#[]⟩]) (ht : Box W b1 [.int .i64 t.kind, .string (bs t.name), av, .string (bs t.text), .int .i64 P, .int .i64 li, .int .i64 co]) (hgw : w.grownBy W (some B))
    (hB : B < w.heap.size) (hb1 : b1 < nb) {v' : Value} {y : TrV} (hy : NodeX (fun k => ((B ≤ k ∨ k < lo) ∧ k < w.heap.size + 1) ∨ k = nb ∨ kv.ownBlock = some k) W y.1 y.2.1 y.2.2) (ho : Owns (nb + 1) 54 4 trC w8 v' (L ++ [y])) (hg : W.grownBy w8 kv.ownBlock) (hv : v'.ownBlock = kv.ownBlock ∨ v'.ownBlock = some W.heap.size)
    {tx' : Bool} {j' c' : Nat} {bad' off' : Int} (hrb : RB W B lv j' c' bad' off') (hij : i < j') (hjl : j' ≤ acc.length) (hcj : c' ≤ j') (hlj : L.length + 1 ≤ j')
    (hrun : (bad' = 0 ∧ (t.kind = 1 → runB st (acc.drop i) = runB ⟨⟨t.name, t.attrs, kids ++ [y.1]⟩ :: st.stack, none, c', tx'⟩ (acc.drop j')) ∧ (t.kind = 2 → runB st (acc.drop i) = runB (closeB ⟨t.name, t.attrs, kids ++ [y.1]⟩ st.stack none c') (acc.drop j')) ∧ (tx' = true → ∃ ks t', kids ++ [y.1] = ks ++ [t'] ∧ t'.text.length ≤ tmax j')) ∨ (bad' ≠ 0 ∧ ∃ r, runB st (acc.drop i) = .bad bad' r ∧ off' = (pos s r : Nat))) :
    LI lo B b1 nb lv s st i acc t P li co av w (w8.setCell ⟨nb, 2, none⟩ v') j' c' (kids ++ [y.1]) tx' (L ++ [y]) v' bad' off' := by
  have hge := hm.ge
  have hkb : ∀ g, kv.ownBlock = some g → nb < g := fun g hg => (hm.own.rowOf hg).1
  have hne : ∀ k, k ≤ nb → some k ≠ kv.ownBlock := fun k hk e => by have := hkb k e.symm; omega
  exact ⟨hm.push hy ho hg hv, (hrb.grown hg (hne B (by omega))).grownB (setCell_grown _ _ _ _) (by omega), (hr.grown hg (hne _ (by omega))).grownB (setCell_grown _ _ _ _) (by omega), (ht.grown hg (hne _ (by omega))).grownB (setCell_grown _ _ _ _) (by omega),
    grown_set (grown_high hgw hg (fun k hk => by have := hkb k hk; omega)) (by omega) 2 v', hij, hjl, hcj, by simpa using hlj, hrun⟩
theorem LI.more {B b1 nb : Nat} {lv : Value} {s : S} {st : BSt} {i : Nat} {acc : List (Tk × Bs)} {t : Tk} {P li co : Nat} {av : Value} {w W : World} {kids : List Tr} {L : List TrV} {g cap : Nat} {n x ss : Bs} {a : List At2} {k : List Tr} {ya yk : Value} (hm : Mk lo W B (w.heap.size + 1) nb ⟨t.name, t.attrs, kids⟩ (L ++ [((.mk n a k x : Tr), ya, yk)]) av (.slice (some ⟨g, 0, none⟩) (L.length + 1) cap))
    (hr : Box W w.heap.size [.string ⟨#[]⟩, .slice none 0 0, .slice none 0 0, .string ⟨#[]⟩]) (ht : Box W b1 [.int .i64 t.kind, .string (bs t.name), av, .string (bs t.text), .int .i64 P, .int .i64 li, .int .i64 co]) (hgw : w.grownBy W (some B))
    (hB : B < w.heap.size) (hb1 : b1 < nb) {tx' : Bool} {j' c' : Nat} {off' : Int} (hrb : RB W B lv j' c' 0 off') (hij : i < j') (hjl : j' ≤ acc.length) (hcj : c' ≤ j') (hlj : L.length + 1 ≤ j') (hk1 : t.kind = 1)
    (hrun : runB st (acc.drop i) = runB ⟨(⟨t.name, t.attrs, kids⟩ : Fr).more ss :: st.stack, none, c', tx'⟩ (acc.drop j')) (htx : x.length + ss.length ≤ tmax j') :
    ∃ L', LI lo B b1 nb lv s st i acc t P li co av w (W.setCell ⟨g, L.length * 4 + 3, none⟩ (.string (bs (x ++ ss)))) j' c' (addText ss kids) tx' L' (.slice (some ⟨g, 0, none⟩) (L.length + 1) cap) 0 off' := by
  have hge := hm.ge
  have hkb : nb < g := (hm.own.rowOf (g := g) rfl).1
  have his : L.map (·.1) ++ [.mk n a k x] = kids := by have := hm.is; simpa using this
  refine ⟨_, hm.more, hrb.grownB (setCell_grown _ _ _ _) (by omega), hr.grownB (setCell_grown _ _ _ _) (by omega), ht.grownB (setCell_grown _ _ _ _) (by omega), grown_set hgw (by omega) _ _, hij, hjl, hcj, by simpa using hlj, .inl ⟨rfl, fun _ => hrun, fun h => absurd (hk1.symm.trans h) (by decide), fun _ => ⟨L.map (·.1), .mk n a k (x ++ ss), ?_, by show (x ++ ss).length ≤ _; rw [List.length_append]; exact htx⟩⟩⟩
  rw [← his, addText_snoc]
theorem Mk.last {W : World} {B N nb : Nat} {f : Fr} {L : List TrV} {av kv : Value} (h : Mk lo W B N nb f L av kv) {ks : List Tr} {t' : Tr} (hk : f.kids = ks ++ [t']) : ∃ (L' : List TrV) (n : Bs) (a : List At2) (k : List Tr) (x : Bs) (ya yk : Value) (g cap : Nat), L = L' ++ [((.mk n a k x : Tr), ya, yk)] ∧ t'.text = x ∧ kv = .slice (some ⟨g, 0, none⟩) (L'.length + 1) cap ∧ L'.length + 1 ≤ cap ∧ cap ≤ maxLen ∧ g < W.heap.size ∧ nb < g ∧ W.cell? ⟨g, L'.length * 4 + 3, none⟩ = some (.string (bs x)) ∧ W.frozen? ⟨g, L'.length * 4 + 3, none⟩ = false := by
  have his := h.is
  rw [hk] at his
  obtain ⟨L', y, rfl⟩ : ∃ L' y, L = L' ++ [y] := by
    rcases List.eq_nil_or_concat L with rfl | ⟨L', y, rfl⟩
    · simp at his
    · exact ⟨L', y, by simp⟩
  rw [List.map_append] at his
  obtain ⟨-, hk2⟩ := List.append_inj' his rfl
  obtain ⟨t'', ya, yk⟩ := y
  simp only [List.map_cons, List.map_nil, List.cons.injEq, and_true] at hk2
  subst hk2
  obtain ⟨tn, ta, tk, tx⟩ := t''
  obtain ⟨ao, cap, rfl⟩ := h.own.shape
  obtain ⟨g1, e1, h1, h2, h3, h4, -⟩ := own_store (j := 3) trC_len h.own (by simp : (L' ++ [((.mk tn ta tk tx : Tr), ya, yk)])[L'.length]? = some ((.mk tn ta tk tx : Tr), ya, yk)) (by decide)
  subst e1
  obtain ⟨-, -, hrow, -, hc, hmx⟩ := h.own.row
  exact ⟨L', tn, ta, tk, tx, ya, yk, g1, cap, rfl, rfl, by simp, by simpa using hc, hmx, h2, by omega, h3, h4⟩

theorem LI.place {B b1 nb : Nat} {lv : Value} {s : S} {st : BSt} {i : Nat} {acc : List (Tk × Bs)} {t : Tk} {P li co : Nat} {av : Value} {w wr : World} {j c : Nat} {kids : List Tr} {tx : Bool} {L : List TrV} {kv : Value} {bad off : Int} (h : LI lo B b1 nb lv s st i acc t P li co av w wr j c kids tx L kv bad off) : (placeOf wr B).toNat = j := by
  have h2 : placeOf wr B = ((j : Nat) : Int) := by unfold placeOf; rw [h.rb.cell 1 _ rfl]
  rw [h2]; rfl

/-- Where a token stands. -/
def tokOff (s : S) (p : Tk × Bs) : Nat := pos s p.2
theorem node_one {n x : Bs} {av kv : Value} (ha : ∃ a b c, av = .slice a b c) (hk : ∃ a b c, kv = .slice a b c) : ∀ u ∈ nodeC n av kv x, u.oneCell' = true := by
  obtain ⟨a, b, c, rfl⟩ := ha
  obtain ⟨d, e, f, rfl⟩ := hk
  intro u hu
  simp only [nodeC, List.mem_cons, List.not_mem_nil, or_false] at hu
  rcases hu with rfl | rfl | rfl | rfl <;> rfl

theorem li_fin {B nb : Nat} {lv av kv : Value} {w W : World} {t : Tk} {kids : List Tr} {L : List TrV} (hB : B < w.heap.size) (hm : Mk lo W B (w.heap.size + 1) nb ⟨t.name, t.attrs, kids⟩ L av kv) (hr : Box W w.heap.size [.string ⟨#[]⟩, .slice none 0 0, .slice none 0 0, .string ⟨#[]⟩]) (hg : w.grownBy W (some B)) {i' c' bad' off' : Int} (hR : RB W B lv i' c' bad' off') :
    Box (resN W w.heap.size (.string (bs t.name)) av kv (.string ⟨#[]⟩)) w.heap.size [.string (bs t.name), av, kv, .string ⟨#[]⟩] ∧ NodeX (fun k => (B ≤ k ∨ k < lo) ∧ k < w.heap.size) (resN W w.heap.size (.string (bs t.name)) av kv (.string ⟨#[]⟩)) (Fr.tree ⟨t.name, t.attrs, kids⟩) av kv ∧ w.grownBy (resN W w.heap.size (.string (bs t.name)) av kv (.string ⟨#[]⟩)) (some B) ∧ RB (resN W w.heap.size (.string (bs t.name)) av kv (.string ⟨#[]⟩)) B lv i' c' bad' off' :=
  elem_end hB hm.done hr hg hR _ _ _ _

theorem begin_start {st : BSt} {t : Tk} (hr : st.root = none) (hb : ¬ 64 ≤ st.stack.length) (hc : ¬ 4096 < st.count + 1) : beginB st t = .ok ⟨⟨t.name, t.attrs, []⟩ :: st.stack, none, st.count + 1, false⟩ := by
  unfold beginB
  rw [hr, if_neg (by simp), if_neg hb, if_neg hc]
theorem run_start {st : BSt} {acc : List (Tk × Bs)} {i : Nat} (hi : i < acc.length) (hr : st.root = none) (hb : ¬ 64 ≤ st.stack.length) (hc : ¬ 4096 < st.count + 1) :
    (acc[i].1.kind = 1 → runB st (acc.drop i) = runB ⟨⟨acc[i].1.name, acc[i].1.attrs, []⟩ :: st.stack, none, st.count + 1, false⟩ (acc.drop (i + 1))) ∧ (acc[i].1.kind = 2 → runB st (acc.drop i) = runB (closeB ⟨acc[i].1.name, acc[i].1.attrs, []⟩ st.stack none (st.count + 1)) (acc.drop (i + 1))) := by
  have h1 := begin_start (t := acc[i].1) hr hb hc
  rw [List.drop_eq_getElem_cons hi]
  refine ⟨fun hk => ?_, fun hk => ?_⟩
  · have : stepB st acc[i].1 = .ok ⟨⟨acc[i].1.name, acc[i].1.attrs, []⟩ :: st.stack, none, st.count + 1, false⟩ := by
      unfold stepB
      rw [if_neg (by rw [hk]; decide), if_pos hk, h1]
    simp only [runB, this]
  · have : stepB st acc[i].1 = .ok (closeB ⟨acc[i].1.name, acc[i].1.attrs, []⟩ st.stack none (st.count + 1)) := by
      unfold stepB
      rw [if_neg (by rw [hk]; decide), if_neg (by rw [hk]; decide), if_pos hk, h1]
      rfl
    simp only [runB, this]

/-- A kid that element has built is pushed. -/
theorem LI.kid {B b1 nb : Nat} {lv : Value} {s : S} {st : BSt} {i : Nat} {acc : List (Tk × Bs)} {t : Tk} {P li co : Nat} {av : Value} {w W w9 w8 : World} {j c : Nat} {kids : List Tr} {tx : Bool} {L : List TrV} {kv : Value} {off : Int} {c9 : Obj} (h3 : LI lo B b1 nb lv s st i acc t P li co av w W j c kids tx L kv 0 off)
    (hrun : runB st (acc.drop i) = runB ⟨⟨t.name, t.attrs, kids⟩ :: st.stack, none, c, tx⟩ (acc.drop j)) (hk1 : t.kind = 1) (hB : B < w.heap.size) (hb1 : b1 < nb)
    (hb1B : B < b1) {t9 : Tr} {av9 kv9 : Value} (hn9 : NodeX (fun k => (B ≤ k ∨ k < lo) ∧ k < W.heap.size) w9 t9 av9 kv9) (hg9 : W.grownBy w9 (some B))
    (hp9 : (∃ (x : Int) (r : Bs) (i' c' : Nat), x ≠ 0 ∧ j < i' ∧ i' ≤ acc.length ∧ c' ≤ i' ∧ runB ⟨⟨t.name, t.attrs, kids⟩ :: st.stack, none, c, tx⟩ (acc.drop j) = .bad x r ∧ RB w9 B lv i' c' x (pos s r : Nat)) ∨
      (∃ (f : Fr) (i' c' : Nat) (o : Int), t9 = f.tree ∧ j < i' ∧ i' ≤ acc.length ∧ c' ≤ i' ∧ RB w9 B lv i' c' 0 o ∧ runB ⟨⟨t.name, t.attrs, kids⟩ :: st.stack, none, c, tx⟩ (acc.drop j) = runB (closeB f (⟨t.name, t.attrs, kids⟩ :: st.stack) none c') (acc.drop i')))
    {v8 : Value} (ho : Owns (nb + 1) 54 4 trC w8 v8 (L ++ [(t9, av9, kv9)])) (hg : (w9.alloc c9).grownBy w8 kv.ownBlock) (hv : v8.ownBlock = kv.ownBlock ∨ v8.ownBlock = some (w9.alloc c9).heap.size) :
    ∃ (j' c' : Nat) (bad' off' : Int), j < j' ∧ j' ≤ acc.length ∧ LI lo B b1 nb lv s st i acc t P li co av w (w8.setCell ⟨nb, 2, none⟩ v8) j' c' (kids ++ [t9]) false (L ++ [(t9, av9, kv9)]) v8 bad' off' := by
  have hab : Below w9.heap.size w9 (w9.alloc c9) := (Below.refl _ _).alloc (Nat.le_refl _) _
  have nl := h3.made.box.lt
  have hnN := h3.made.ge
  have hXY : ∀ k, (((B ≤ k ∨ k < lo) ∧ k < w.heap.size + 1) ∨ k = nb ∨ kv.ownBlock = some k) → (B ≤ k ∨ k < lo) ∧ k < W.heap.size := by
    intro k hX
    rcases hX with ⟨h1, h2⟩ | rfl | h
    · exact ⟨h1, by omega⟩
    · exact ⟨.inl (by omega), by omega⟩
    · have := h3.made.own.lt k h
      have := (h3.made.own.rowOf h).1
      exact ⟨.inl (by omega), by omega⟩
  have hm6 := (h3.made.grownB hg9).below hab
  have hr6 := (h3.res.grownB hg9 (by omega)).below hab (Nat.lt_of_lt_of_le h3.res.lt hg9.size)
  have ht6 := (h3.tok.grownB hg9 (by omega)).below hab (Nat.lt_of_lt_of_le h3.tok.lt hg9.size)
  have hw6 := (h3.grown.trans hg9).trans (grownOf hab _)
  have hy6 := hn9.keep (Y := fun k => ((B ≤ k ∨ k < lo) ∧ k < w.heap.size + 1) ∨ k = nb ∨ kv.ownBlock = some k) (KeptX.below hab) (fun k _ h => hXY k h)
  have hij := h3.ij
  have hlj := h3.lj
  rcases hp9 with ⟨x, r, i', c', hx, h1, h2, h3', h4, h5⟩ | ⟨f', i', c', o', h0, h1, h2, h3', h4, h5⟩
  · exact ⟨i', c', x, _, h1, h2, LI.push (y := (t9, av9, kv9)) hm6 hr6 ht6 hw6 hB hb1 hy6 ho hg hv (h5.below hab h5.lt) (by omega) h2 h3' (by omega) (.inr ⟨hx, r, by rw [hrun]; exact h4, rfl⟩)⟩
  · exact ⟨i', c', 0, _, h1, h2, LI.push (y := (t9, av9, kv9)) hm6 hr6 ht6 hw6 hB hb1 hy6 ho hg hv (h4.below hab h4.lt) (by omega) h2 h3' (by omega) (.inl ⟨rfl, fun _ => by rw [hrun, h5, h0]; rfl, fun h => absurd (hk1.symm.trans h) (by decide), by simp⟩)⟩

/-- A kid that element has built, and what pushing it comes to. -/
structure KidPk (lo B b1 nb : Nat) (lv : Value) (s : S) (st : BSt) (i : Nat) (acc : List (Tk × Bs)) (t : Tk) (P li co : Nat) (av : Value) (w : World) (j : Nat) (kids : List Tr) (L : List TrV) (ka : Option Addr) (kc : Nat) (w9 : World) (y : TrV) : Prop where
  cell : w9.cell? ⟨nb, 2, none⟩ = some (.slice ka L.length kc)
  lt : nb < w9.heap.size
  own : Owns (nb + 1) 54 4 trC (w9.alloc (.cells (trC y).toArray 54)) (.slice ka L.length kc) L
  new : ∀ n u, (trC y)[n]? = some u → (w9.alloc (.cells (trC y).toArray 54)).cell? ⟨w9.heap.size, n, none⟩ = some u
  one : ∀ u ∈ trC y, u.oneCell' = true
  hb : nb + 1 ≤ (w9.alloc (.cells (trC y).toArray 54)).heap.size
  sz : (w9.alloc (.cells (trC y).toArray 54)).heap.size = w9.heap.size + 1
  fin : ∀ (g8 cap8 : Nat) (w8 : World), Owns (nb + 1) 54 4 trC w8 (.slice (some ⟨g8, 0, none⟩) (L.length + 1) cap8) (L ++ [y]) → (w9.alloc (.cells (trC y).toArray 54)).grownBy w8 (Value.slice ka L.length kc).ownBlock → ((Value.slice ka L.length kc).ownBlock = some g8 ∨ g8 = w9.heap.size + 1) →
    Box w8 nb [.string (bs t.name), av, .slice ka L.length kc, .string ⟨#[]⟩] ∧ ∃ (j' c' : Nat) (bad' off' : Int), j < j' ∧ j' ≤ acc.length ∧ LI lo B b1 nb lv s st i acc t P li co av w (w8.setCell ⟨nb, 2, none⟩ (.slice (some ⟨g8, 0, none⟩) (L.length + 1) cap8)) j' c' (kids ++ [y.1]) false (L ++ [y]) (.slice (some ⟨g8, 0, none⟩) (L.length + 1) cap8) bad' off'

theorem LI.call {B b1 nb : Nat} {lv : Value} {s : S} {st : BSt} {i : Nat} {acc : List (Tk × Bs)} {t : Tk} {P li co : Nat} {av : Value} {w W : World} {j c : Nat} {kids : List Tr} {tx : Bool} {L : List TrV} {ka : Option Addr} {kc : Nat} {off : Int} (h3 : LI lo B b1 nb lv s st i acc t P li co av w W j c kids tx L (.slice ka L.length kc) 0 off)
    (hrun : runB st (acc.drop i) = runB ⟨⟨t.name, t.attrs, kids⟩ :: st.stack, none, c, tx⟩ (acc.drop j)) (hk1 : t.kind = 1) (hB : B < w.heap.size) (hb1 : b1 < nb) (hb1B : B < b1) {e : Ending} {w9 : World} (h9 : ElemOut lo B lv s ⟨⟨t.name, t.attrs, kids⟩ :: st.stack, none, c, tx⟩ j acc W e w9) :
    ∃ (t9 : Tr) (a9 : Option Addr) (b9 c9 : Nat) (d9 : Option Addr) (e9 f9 : Nat), e = .returned (.agg #[.string (bs t9.name), .slice a9 b9 c9, .slice d9 e9 f9, .string (bs t9.text)]) ∧ KidPk lo B b1 nb lv s st i acc t P li co av w j kids L ka kc w9 (t9, .slice a9 b9 c9, .slice d9 e9 f9) := by
  obtain ⟨t9, av9, kv9, rfl, hn9, hg9, hp9⟩ := h9
  obtain ⟨_, -, hs1, hs2, -⟩ := hn9.parts
  obtain ⟨a9, c9, rfl⟩ := hs1.shape
  obtain ⟨d9, f9, rfl⟩ := hs2.shape
  have hm9 := h3.made.grownB hg9
  refine ⟨t9, a9, _, c9, d9, _, f9, rfl, hm9.box.cell 2 _ rfl, hm9.box.lt, hm9.own.alloc _, (Box.new w9 _ 54 _ rfl).cell, node_one ⟨_, _, _, rfl⟩ ⟨_, _, _, rfl⟩, ?_, by simp, ?_⟩
  · have := hm9.box.lt
    simp; omega
  · intro g8 cap8 w8 ho hg hat
    refine ⟨(hm9.box.alloc _).grown hg (fun e => by have := (hm9.own.rowOf e.symm).1; omega), ?_⟩
    refine LI.kid h3 hrun hk1 hB hb1 hb1B hn9 hg9 hp9 ho hg ?_
    rcases hat with e | e
    · exact .inl (by rw [e]; rfl)
    · exact .inr (by subst e; simp [Value.ownBlock])

/-- Behind a new text's count: what stands where, and whether that was one too many. -/
structure NewT (lo B b1 nb kb : Nat) (lv : Value) (s : S) (st : BSt) (i : Nat) (acc : List (Tk × Bs)) (t : Tk) (P li co : Nat) (av : Value) (w : World) (j c : Nat) (kids : List Tr) (L : List TrV) (ka : Option Addr) (kc : Nat) (x : Bs) (kk : List Value) (W : World) (bad off : Int) : Prop where
  made : Mk lo W B (w.heap.size + 1) nb ⟨t.name, t.attrs, kids⟩ L av (.slice ka L.length kc)
  rb : RB W B lv (j + 1 : Nat) (c + 1 : Nat) bad off
  res : Box W w.heap.size [.string ⟨#[]⟩, .slice none 0 0, .slice none 0 0, .string ⟨#[]⟩]
  tok : Box W b1 [.int .i64 t.kind, .string (bs t.name), av, .string (bs t.text), .int .i64 P, .int .i64 li, .int .i64 co]
  grown : w.grownBy W (some B)
  kbx : Box W kb kk
  run : (bad = 0 ∧ (t.kind = 1 → runB st (acc.drop i) = runB ⟨⟨t.name, t.attrs, kids ++ [(Tr.mk [] [] [] x)]⟩ :: st.stack, none, c + 1, true⟩ (acc.drop (j + 1))) ∧ (t.kind = 2 → runB st (acc.drop i) = runB (closeB ⟨t.name, t.attrs, kids ++ [(Tr.mk [] [] [] x)]⟩ st.stack none (c + 1)) (acc.drop (j + 1))) ∧ (true = true → ∃ ks t', kids ++ [(Tr.mk [] [] [] x)] = ks ++ [t'] ∧ t'.text.length ≤ tmax (j + 1))) ∨ (bad ≠ 0 ∧ ∃ r, runB st (acc.drop i) = .bad bad r ∧ off = (pos s r : Nat))
def tx0 (x : Bs) : TrV := (Tr.mk [] [] [] x, .slice none 0 0, .slice none 0 0)
theorem tx0_one (x : Bs) : ∀ y ∈ [tx0 x], ∀ u ∈ trC y, u.oneCell' = true := by
  intro y hy
  obtain rfl := List.mem_singleton.1 hy
  exact node_one ⟨_, _, _, rfl⟩ ⟨_, _, _, rfl⟩
theorem tx0_cells (x : Bs) : (trC (tx0 x)).toArray = #[.string ⟨#[]⟩, .slice none 0 0, .slice none 0 0, .string (bs x)] := rfl
theorem tx0_lit (x : Bs) (W : World) : SliceOf 4 trC (W.alloc (.cells (trC (tx0 x)).toArray 54)) (.slice (some ⟨W.heap.size, 0, none⟩) 1 1) [tx0 x] := by
  have h := sliceLit trC_len W [tx0 x] 54 _ 1 rfl rfl (by unfold maxLen; simp)
  simpa using h
theorem NewT.fin {B b1 nb kb : Nat} {lv : Value} {s : S} {st : BSt} {i : Nat} {acc : List (Tk × Bs)} {t : Tk} {P li co : Nat} {av : Value} {w : World} {j c : Nat} {kids : List Tr} {L : List TrV} {ka : Option Addr} {kc : Nat} {x : Bs} {kk : List Value} {W : World} {bad off : Int}
    (h : NewT lo B b1 nb kb lv s st i acc t P li co av w j c kids L ka kc x kk W bad off) (hB : B < w.heap.size) (hb1 : b1 < nb) (hij : i < j) (hjl : j < acc.length) (hcj : c ≤ j) (hlj : L.length ≤ j) (v8 : Value) (w8 : World)
    (ho : Owns (nb + 1) 54 4 trC w8 v8 (L ++ [tx0 x])) (hg : (W.alloc (.cells (trC (tx0 x)).toArray 54)).grownBy w8 (Value.slice ka L.length kc).ownBlock) (hv : v8.ownBlock = (Value.slice ka L.length kc).ownBlock ∨ v8.ownBlock = some (W.alloc (.cells (trC (tx0 x)).toArray 54)).heap.size) :
    (∃ a8 cap8, v8 = .slice a8 (L.length + 1) cap8) ∧ Box w8 nb [.string (bs t.name), av, .slice ka L.length kc, .string ⟨#[]⟩] ∧
    LI lo B b1 nb lv s st i acc t P li co av w (w8.setCell ⟨nb, 2, none⟩ v8) (j + 1) (c + 1) (kids ++ [(Tr.mk [] [] [] x)]) true (L ++ [tx0 x]) v8 bad off := by
  have hab : Below W.heap.size W (W.alloc (.cells (trC (tx0 x)).toArray 54)) := (Below.refl _ _).alloc (Nat.le_refl _) _
  refine ⟨by obtain ⟨a, b, e⟩ := ho.shape; exact ⟨a, b, by simpa using e⟩, (h.made.box.alloc _).grown hg (fun e => by have := (h.made.own.rowOf e.symm).1; omega), ?_⟩
  exact LI.push (tx' := true) (y := tx0 x) (h.made.below hab) (h.res.below hab h.res.lt) (h.tok.below hab h.tok.lt) (h.grown.trans (grownOf hab _)) hB hb1 (.mk [] SliceX.nil rfl SliceX.nil (by simp)) ho hg hv (h.rb.below hab h.rb.lt) (by omega) (by omega) (by omega) (by omega) h.run

/-- What is asked of element where the text goes on. -/
def ElemAll (lo B : Nat) (lv : Value) (s : S) (acc : List (Tk × Bs)) (i : Nat) : Prop :=
  ∀ (w : World) (st : BSt) (j : Nat) (o : Int), i < j → (hj : j < acc.length) → RB w B lv j st.count 0 o → TokAt lo B w s lv acc → (acc[j].1.kind = 1 ∨ acc[j].1.kind = 2) → st.root = none → st.count ≤ j →
    Calls Try.prog 64 #[.pointer (some ⟨B, 0, none⟩), .int .i64 st.stack.length, .int .i64 s.size] w (ElemOut lo B lv s st j acc w)

set_option maxRecDepth 100000 in
set_option maxHeartbeats 16000000 in
theorem element_go (B : Nat) (s : S) (ao : Option Addr) (cap : Nat) (acc : List (Tk × Bs)) (w : World) (st : BSt) (i : Nat) (o : Int) (hRB : RB w B (.slice ao acc.length cap) i st.count 0 o) (hT : TokAt lo B w s (.slice ao acc.length cap) acc) (hi : i < acc.length) (hk : acc[i].1.kind = 1 ∨ acc[i].1.kind = 2)
    (hr : st.root = none) (hc : st.count ≤ i) (hlen : acc.length ≤ 100000) (_hs : s.size ≤ 65536) (htx : ∀ k (hk : k < acc.length), acc[k].1.text.length ≤ 2000000) (hd : ¬ 64 ≤ st.stack.length) (hcc4 : ¬ 4096 < st.count + 1) (IH : ElemAll lo B (.slice ao acc.length cap) s acc i) :
    Calls Try.prog 64 #[.pointer (some ⟨B, 0, none⟩), .int .i64 st.stack.length, .int .i64 s.size] w (ElemOut lo B (.slice ao acc.length cap) s st i acc w) := by
  have hrs := run_start hi hr hd hcc4
  have HRS := Lib.hid hrs
  have HIH := Lib.hid IH
  have HTX := Lib.hid htx
  have HTA := Lib.hid hT
  clear hrs IH htx
  obtain ⟨g, oo, cap', av, e, hg, c0, c1, c2, c3, c4, c5, c6, ha⟩ := hT.2 i acc[i].1 acc[i].2 (List.getElem?_eq_getElem hi)
  simp only [Value.slice.injEq, true_and] at e
  obtain ⟨rfl, rfl⟩ := e
  clear hT
  obtain ⟨ta, tc, hav⟩ := ha.shape
  subst hav
  have HAT := Lib.hid ha
  have hii : (i : Int) < (acc.length : Int) := by omega
  clear ha
  generalize acc[i].2 = r at *
  generalize hP : pos s r = P at *
  generalize (lineCol (s.data.toList.take P)).1 = li at *
  generalize (lineCol (s.data.toList.take P)).2 = co at *
  generalize acc[i].1 = t at *
  have HP := Lib.hid hP
  clear hP
  have hBl := hRB.lt
  have HRB := Lib.hid hRB
  go_enter Try.func64, Try.ntmps64
  go_wp2
  refine wp_world ?_
  intro W hW
  have hb : Below w.heap.size w W := by rw [hW]; exact (Below.refl _ w).alloc (Nat.le_refl _) _
  have x0 : Box W w.heap.size [.string ⟨#[]⟩, .slice none 0 0, .slice none 0 0, .string ⟨#[]⟩] := by rw [hW]; exact Box.new w _ _ _ rfl
  have hsz : W.heap.size = w.heap.size + 1 := by rw [hW]; simp
  clear hW
  have hR1 := hRB.below hb hBl
  have cc : ∀ j, W.cell? ⟨g, j, none⟩ = w.cell? ⟨g, j, none⟩ := fun j => hb.cell (p := ⟨g, j, none⟩) (by show g < w.heap.size; omega)
  rw [← cc] at c0 c1 c2 c3 c4 c5 c6
  have r0 := hR1.cell 0 _ rfl
  have r1 := hR1.cell 1 _ rfl
  have rl := hR1.lt
  have hgl : g < W.heap.size := by omega
  have HSZ := Lib.hid hsz
  have HB := Lib.hid hb
  have HX0 := Lib.hid x0
  have HR1 := Lib.hid hR1
  clear hb x0 hR1 hRB cc hsz
  go_region
  go_upto_region 2 with fail
  refine wp_world ?_
  intro W2 hW2
  have hb2 : Below W.heap.size W W2 := by rw [hW2]; exact belowN ((Below.refl _ W).alloc (Nat.le_refl _) _) 1
  have x1 : Box W2 W.heap.size [.int .i64 t.kind, .string (bs t.name), .slice ta t.attrs.length tc, .string (bs t.text), .int .i64 P, .int .i64 li, .int .i64 co] := by rw [hW2]; exact (Box.new W _ _ _ rfl).drew
  clear hW2
  have hR2 := HR1.out.below hb2 rl
  have x0 := HX0.out.below hb2 HX0.out.lt
  have hBw : Below w.heap.size w W2 := HB.out.trans (hb2.mono HB.out.size)
  have r2 := hR2.cell 2 _ rfl
  have r1' := hR2.cell 1 _ rfl
  have r3 := hR2.cell 3 _ rfl
  have rf2 := hR2.free 2
  have rl2 := hR2.lt
  have t0 := x1.cell 0 _ rfl
  have t1 := x1.cell 1 _ rfl
  have t2 := x1.cell 2 _ rfl
  have t4 := x1.cell 4 _ rfl
  have tl := x1.lt
  have hWB : B ≠ W.heap.size := by omega
  have HR2 := Lib.hid hR2
  have HX0' := Lib.hid x0
  have HX1 := Lib.hid x1
  have HBW := Lib.hid hBw
  have hcc : IntKind.i64.wrap ((st.count : Int) + 1) = (st.count : Int) + 1 := IntWalk.i64_in _ (by omega)
  have hci : IntKind.i64.wrap ((i : Int) + 1) = (i : Int) + 1 := IntWalk.i64_in _ (by omega)
  have HSZ2 := Lib.hid hb2.size
  have hRB2 : RB (W2.setCell ⟨B, 2, none⟩ (.int .i64 ((st.count : Int) + 1))) B (.slice (some ⟨g, oo, none⟩) acc.length cap) i ((st.count : Int) + 1) 0 o := hR2.set 2 _
  have HRB2 := Lib.hid hRB2
  clear hb2 x1 hR2 x0 hBw c0 c1 c2 c3 c4 c5 c6 r0 r1 hRB2
  generalize W.heap.size = b1 at *
  have HGW : Hid (w.grownBy W2 (some B)) := grownOf HBW.out _
  have hcI : ¬ (4096 : Int) < (st.count : Int) + 1 := by omega
  have hdI : ¬ (64 : Int) ≤ (st.stack.length : Int) := by omega
  have rf1 := HR2.out.free 1
  go_wp2
  refine wp_world ?_
  intro W5 hW5
  have hR5 : RB W5 B (.slice (some ⟨g, oo, none⟩) acc.length cap) ((i : Int) + 1) ((st.count : Int) + 1) 0 o := by rw [hW5]; exact (HRB2.out.set 1 _).alloc _
  have x0 : Box W5 w.heap.size [.string ⟨#[]⟩, .slice none 0 0, .slice none 0 0, .string ⟨#[]⟩] := by rw [hW5]; exact ((HX0'.out.grownB (setCell_grown _ B 2 _) (by omega)).grownB (setCell_grown _ B 1 _) (by omega)).alloc _
  have x1 : Box W5 b1 [.int .i64 t.kind, .string (bs t.name), .slice ta t.attrs.length tc, .string (bs t.text), .int .i64 P, .int .i64 li, .int .i64 co] := by rw [hW5]; exact ((HX1.out.grownB (setCell_grown _ B 2 _) (by omega)).grownB (setCell_grown _ B 1 _) (by omega)).alloc _
  have x2 : Box W5 W2.heap.size [.string (bs t.name), .slice ta t.attrs.length tc, .slice none 0 0, .string ⟨#[]⟩] := by rw [hW5]; exact Box.new _ _ _ _ (by simp)
  have hG5 : w.grownBy W5 (some B) := by rw [hW5]; exact ((HGW.out.trans (setCell_grown _ _ _ _)).trans (setCell_grown _ _ _ _)).trans (World.grownBy_alloc _ _ _)
  have hN : w.heap.size + 1 ≤ W2.heap.size := HX0'.out.lt
  have hLI : LI lo B b1 W2.heap.size (.slice (some ⟨g, oo, none⟩) acc.length cap) s st i acc t P li co (.slice ta t.attrs.length tc) w W5 (i + 1) (st.count + 1) [] false [] (.slice none 0 0) 0 o :=
    ⟨⟨x2, by omega, hN, HAT.out.below (below_grown hG5 (Nat.le_of_lt hBl)), Owns.nil, rfl, by simp⟩, by simpa using hR5, x0, x1, hG5, Nat.lt_succ_self _, hi, by omega, Nat.zero_le _, .inl ⟨rfl, HRS.out.1, HRS.out.2, by simp⟩⟩
  have HLI := Lib.hid hLI
  have HTK : Hid (∀ W, w.grownBy W (some B) → TokAt lo B W s (.slice (some ⟨g, oo, none⟩) acc.length cap) acc) := fun W hW => HTA.out.below (below_grown hW (Nat.le_of_lt hBl))
  have hb1B : B < b1 := by have h1 := HX0.out.lt; have h2 := HX1.out.lt; have h3 := HSZ.out; omega
  have hb1w : w.heap.size < b1 := by have h3 := HSZ.out; omega
  have hb1n : b1 < W2.heap.size := HX1.out.lt
  clear hLI x0 x1 x2 hR5 hG5 hW5 r1' r2 r3 rf1 rf2 t0 t1 t2 t4 tl HRB2 HX0' HX1 HR2 HBW HGW HSZ2 HX0 HR1 HB HSZ HRS HTA HRB hN
  generalize W2.heap.size = nb at *
  go_loopw [9, 10] (fun tv _ wr => ∃ (j c : Nat) (kids : List Tr) (tx : Bool) (L : List TrV) (kv : Value) (bad off : Int), tv = .bool tx ∧ Hid (LI lo B b1 nb (.slice (some ⟨g, oo, none⟩) acc.length cap) s st i acc t P li co (.slice ta t.attrs.length tc) w wr j c kids tx L kv bad off)) (fun _ _ wr => acc.length - (placeOf wr B).toNat)
  case atStart => exact ⟨_, _, _, _, _, _, _, _, rfl, HLI⟩
  case round =>
    obtain ⟨j, c, kids, tx, L, kv, bad, off, rfl, HL⟩ := hrel
    have r0 := HL.out.rb.cell 0 _ rfl
    have r1 := HL.out.rb.cell 1 _ rfl
    have r3 := HL.out.rb.cell 3 _ rfl
    have rl := HL.out.rb.lt
    have t0 := HL.out.tok.cell 0 _ rfl
    have tl := HL.out.tok.lt
    have HPO : Hid (placeOf wr B = j) := by show placeOf wr B = j; unfold placeOf; rw [r1]
    clear HLI
    have hk12 : ((t.kind == 1) = false ∧ t.kind = 2) ∨ ((t.kind == 1) = true ∧ t.kind = 1) := by
      rcases hk with e | e
      · exact .inr ⟨by rw [e]; rfl, e⟩
      · exact .inl ⟨by rw [e]; rfl, e⟩
    rcases hk12 with ⟨hkb, hk2⟩ | ⟨hkb, hk1⟩
    · as_aux_lemma =>
      have HRUN := Lib.hid HL.out.run
      have hm := HL.out.made
      have hr := HL.out.res
      have hg := HL.out.grown
      have hR := HL.out.rb
      obtain ⟨ka, kn, kc, hkv⟩ : ∃ ka kn kc, kv = .slice ka kn kc := by obtain ⟨a, b, e⟩ := hm.own.shape; exact ⟨_, _, _, e⟩
      subst hkv
      have y0 := hr.cell 0 _ rfl
      have y1 := hr.cell 1 _ rfl
      have y2 := hr.cell 2 _ rfl
      have y3 := hr.cell 3 _ rfl
      have yf0 := hr.free 0
      have yf1 := hr.free 1
      have yf2 := hr.free 2
      have yf3 := hr.free 3
      have yl := hr.lt
      have n0 := hm.box.cell 0 _ rfl
      have n1 := hm.box.cell 1 _ rfl
      have n2 := hm.box.cell 2 _ rfl
      have n3 := hm.box.cell 3 _ rfl
      have nl := hm.box.lt
      have hne : w.heap.size ≠ nb := by have := hm.ge; omega
      have HFIN := Lib.hid (li_fin hBl hm hr hg hR)
      clear hm hr hg hR
      go_wp2
      obtain ⟨e0, e1, e2, e3⟩ := HFIN.out
      unfold resN at e0 e1 e2 e3
      clear HFIN y0 y1 y2 y3 yf0 yf1 yf2 yf3 n0 n1 n2 n3
      generalize (((wr.setCell ⟨w.heap.size, 0, none⟩ (.string (bs t.name))).setCell ⟨w.heap.size, 1, none⟩ (.slice ta t.attrs.length tc)).setCell ⟨w.heap.size, 2, none⟩ (.slice ka kn kc)).setCell ⟨w.heap.size, 3, none⟩ (.string ⟨#[]⟩) = W6 at *
      have d0 := e0.cell 0 _ rfl
      have d1 := e0.cell 1 _ rfl
      have d2 := e0.cell 2 _ rfl
      have d3 := e0.cell 3 _ rfl
      refine bodyPost_ret (v := .agg #[.string (bs t.name), .slice ta t.attrs.length tc, .slice ka kn kc, .string ⟨#[]⟩]) (by simp [results, Try.results64, go_sem, d0, d1, d2, d3]) rfl ?_
      refine ⟨_, _, _, rfl, e1, e2, ?_⟩
      rcases HRUN.out with ⟨rfl, -, h2, -⟩ | ⟨h1, r, h2, h3⟩
      · exact .inr ⟨_, j, c, off, rfl, HL.out.ij, HL.out.jl, HL.out.cj, e3, h2 hk2⟩
      · exact .inl ⟨bad, r, j, c, h1, HL.out.ij, HL.out.jl, HL.out.cj, h2, by rw [← h3]; exact e3⟩
    · have HK1 := Lib.hid hk1
      clear hk1
      by_cases hbad : bad = 0
      rotate_left
      · as_aux_lemma =>
        have hbb : (bad == 0) = false := beq_eq_false_iff_ne.2 hbad
        have HRUN := Lib.hid HL.out.run
        have hm := HL.out.made
        have hr := HL.out.res
        have hg := HL.out.grown
        have hR := HL.out.rb
        obtain ⟨ka, kn, kc, hkv⟩ : ∃ ka kn kc, kv = .slice ka kn kc := by obtain ⟨a, b, e⟩ := hm.own.shape; exact ⟨_, _, _, e⟩
        subst hkv
        have y0 := hr.cell 0 _ rfl
        have y1 := hr.cell 1 _ rfl
        have y2 := hr.cell 2 _ rfl
        have y3 := hr.cell 3 _ rfl
        have yf0 := hr.free 0
        have yf1 := hr.free 1
        have yf2 := hr.free 2
        have yf3 := hr.free 3
        have yl := hr.lt
        have n0 := hm.box.cell 0 _ rfl
        have n1 := hm.box.cell 1 _ rfl
        have n2 := hm.box.cell 2 _ rfl
        have n3 := hm.box.cell 3 _ rfl
        have nl := hm.box.lt
        have hne : w.heap.size ≠ nb := by have := hm.ge; omega
        have HFIN := Lib.hid (li_fin hBl hm hr hg hR)
        clear hm hr hg hR
        go_wp2
        obtain ⟨e0, e1, e2, e3⟩ := HFIN.out
        unfold resN at e0 e1 e2 e3
        clear HFIN y0 y1 y2 y3 yf0 yf1 yf2 yf3 n0 n1 n2 n3
        generalize (((wr.setCell ⟨w.heap.size, 0, none⟩ (.string (bs t.name))).setCell ⟨w.heap.size, 1, none⟩ (.slice ta t.attrs.length tc)).setCell ⟨w.heap.size, 2, none⟩ (.slice ka kn kc)).setCell ⟨w.heap.size, 3, none⟩ (.string ⟨#[]⟩) = W6 at *
        have d0 := e0.cell 0 _ rfl
        have d1 := e0.cell 1 _ rfl
        have d2 := e0.cell 2 _ rfl
        have d3 := e0.cell 3 _ rfl
        refine bodyPost_ret (v := .agg #[.string (bs t.name), .slice ta t.attrs.length tc, .slice ka kn kc, .string ⟨#[]⟩]) (by simp [results, Try.results64, go_sem, d0, d1, d2, d3]) rfl ?_
        refine ⟨_, _, _, rfl, e1, e2, ?_⟩
        rcases HRUN.out with ⟨h0, -⟩ | ⟨h1, r, h2, h3⟩
        · exact absurd h0 hbad
        · exact .inl ⟨bad, r, j, c, h1, HL.out.ij, HL.out.jl, HL.out.cj, h2, by rw [← h3]; exact e3⟩
      · subst hbad
        have hrun : runB st (acc.drop i) = runB ⟨⟨t.name, t.attrs, kids⟩ :: st.stack, none, c, tx⟩ (acc.drop j) ∧ (tx = true → ∃ ks t', kids = ks ++ [t'] ∧ t'.text.length ≤ tmax j) := by
          rcases HL.out.run with ⟨-, h1, -, h3⟩ | ⟨h1, -⟩
          · exact ⟨h1 HK1.out, h3⟩
          · exact absurd rfl h1
        have HRUN := Lib.hid hrun
        clear hrun
        by_cases hjl : j < acc.length
        rotate_left
        · as_aux_lemma =>
          have hje : j = acc.length := by have := HL.out.jl; omega
          have hjI : (acc.length : Int) ≤ (j : Int) := by omega
          have hjd : acc.drop j = [] := List.drop_of_length_le (by omega)
          have HJD := Lib.hid hjd
          have HREF : Hid (∀ n, Calls Try.prog 65 #[.pointer (some ⟨B, 0, none⟩), .int .i64 13, .int .i64 s.size] (wr.drewN n) fun en w' => en = .returned (.tuple #[]) ∧ RB w' B (.slice (some ⟨g, oo, none⟩) acc.length cap) j c 13 s.size ∧ (wr.drewN n).grownBy w' (some B)) := fun n => refFail_any (wr.drewN n) B _ _ _ _ 13 s.size (HL.out.rb.drewN n)
          clear hjd
          go_wp2
          go_quiet (fail)
          go_wp2_with fail
          refine (HREF.out _).mono ?_
          rintro e W4 ⟨rfl, hR, hg4⟩
          have hgW : wr.grownBy W4 (some B) := (grownN wr _ _).trans hg4
          have hm := HL.out.made.grownB hgW
          have hr := HL.out.res.grownB hgW (by omega)
          have hg := HL.out.grown.trans hgW
          clear hgW hg4 r0 r1 r3 t0 tl
          obtain ⟨ka, kn, kc, hkv⟩ : ∃ ka kn kc, kv = .slice ka kn kc := by obtain ⟨a, b, e⟩ := hm.own.shape; exact ⟨_, _, _, e⟩
          subst hkv
          have y0 := hr.cell 0 _ rfl
          have y1 := hr.cell 1 _ rfl
          have y2 := hr.cell 2 _ rfl
          have y3 := hr.cell 3 _ rfl
          have yf0 := hr.free 0
          have yf1 := hr.free 1
          have yf2 := hr.free 2
          have yf3 := hr.free 3
          have yl := hr.lt
          have n0 := hm.box.cell 0 _ rfl
          have n1 := hm.box.cell 1 _ rfl
          have n2 := hm.box.cell 2 _ rfl
          have n3 := hm.box.cell 3 _ rfl
          have nl := hm.box.lt
          have hne : w.heap.size ≠ nb := by have := hm.ge; omega
          have HFIN := Lib.hid (li_fin hBl hm hr hg hR)
          clear hm hr hg hR
          go_wp2
          obtain ⟨e0, e1, e2, e3⟩ := HFIN.out
          unfold resN at e0 e1 e2 e3
          clear HFIN y0 y1 y2 y3 yf0 yf1 yf2 yf3 n0 n1 n2 n3
          generalize (((W4.setCell ⟨w.heap.size, 0, none⟩ (.string (bs t.name))).setCell ⟨w.heap.size, 1, none⟩ (.slice ta t.attrs.length tc)).setCell ⟨w.heap.size, 2, none⟩ (.slice ka kn kc)).setCell ⟨w.heap.size, 3, none⟩ (.string ⟨#[]⟩) = W6 at *
          have d0 := e0.cell 0 _ rfl
          have d1 := e0.cell 1 _ rfl
          have d2 := e0.cell 2 _ rfl
          have d3 := e0.cell 3 _ rfl
          refine bodyPost_ret (v := .agg #[.string (bs t.name), .slice ta t.attrs.length tc, .slice ka kn kc, .string ⟨#[]⟩]) (by simp [results, Try.results64, go_sem, d0, d1, d2, d3]) rfl ?_
          refine ⟨_, _, _, rfl, e1, e2, .inl ⟨13, [], j, c, by decide, HL.out.ij, HL.out.jl, HL.out.cj, ?_, by rw [pos_nil]; exact e3⟩⟩
          rw [HRUN.out.1, HJD.out]; rfl
        · obtain ⟨g', oo', cap', kav, ee, hg', k0, k1, k2, k3, k4, k5, k6, ka⟩ := (HTK.out wr HL.out.grown).2 j acc[j].1 acc[j].2 (List.getElem?_eq_getElem hjl)
          simp only [Value.slice.injEq, true_and, Option.some.injEq, Addr.mk.injEq, and_true] at ee
          obtain ⟨⟨rfl, rfl⟩, rfl⟩ := ee
          have hjI : (j : Int) < (acc.length : Int) := by omega
          have HDR : Hid (acc.drop j = acc[j] :: acc.drop (j + 1)) := List.drop_eq_getElem_cons hjl
          have hktx := HTX.out j hjl
          obtain ⟨kta, ktc, hkav⟩ := ka.shape
          subst hkav
          have HKA := Lib.hid ka
          have hgr : g < wr.heap.size := by omega
          clear ka k0 k1 k2 k3 k4 k5 k6
          go_wp2
          go_quiet (fail)
          go_wp2
          refine wp_world ?_
          intro W1 hW1
          have hL1 : LI lo B b1 nb (.slice (some ⟨g, oo, none⟩) acc.length cap) s st i acc t P li co (.slice ta t.attrs.length tc) w W1 j c kids tx L kv 0 off := by rw [hW1]; exact HL.out.later (belowN (Below.refl _ _) _)
          clear hW1 r0 r1 r3 rl t0 tl hgr
          have HL1 := Lib.hid hL1
          obtain ⟨g', oo', cap', kav, ee, hg', k0, k1, k2, k3, k4, k5, k6, ka⟩ := (HTK.out W1 hL1.grown).2 j acc[j].1 acc[j].2 (List.getElem?_eq_getElem hjl)
          simp only [Value.slice.injEq, true_and, Option.some.injEq, Addr.mk.injEq, and_true] at ee
          obtain ⟨⟨rfl, rfl⟩, rfl⟩ := ee
          obtain ⟨kta, ktc, hkav⟩ := ka.shape
          subst hkav
          have HKA2 := Lib.hid ka
          have HTP : Hid (tokOff s acc[j] = pos s acc[j].2) := rfl
          have HSTP : Hid (∀ st', stepB ⟨⟨t.name, t.attrs, kids⟩ :: st.stack, none, c, tx⟩ acc[j].1 = .ok st' → runB st (acc.drop i) = runB st' (acc.drop (j + 1))) := fun st' h => by rw [HRUN.out.1, HDR.out]; simp only [runB, h]
          have HSTX : Hid (∀ x, stepB ⟨⟨t.name, t.attrs, kids⟩ :: st.stack, none, c, tx⟩ acc[j].1 = .bad x → runB st (acc.drop i) = .bad x acc[j].2) := fun x h => by rw [HRUN.out.1, HDR.out]; simp only [runB, h]
          have HIHJ : Hid (∀ (W : World) (st' : BSt) (o' : Int), RB W B (.slice (some ⟨g, oo, none⟩) acc.length cap) j st'.count 0 o' → TokAt lo B W s (.slice (some ⟨g, oo, none⟩) acc.length cap) acc → (acc[j].1.kind = 1 ∨ acc[j].1.kind = 2) → st'.root = none → st'.count ≤ j →
              Calls Try.prog 64 #[.pointer (some ⟨B, 0, none⟩), .int .i64 st'.stack.length, .int .i64 s.size] W (ElemOut lo B (.slice (some ⟨g, oo, none⟩) acc.length cap) s st' j acc W)) := fun W st' o' h1 h2 h3 h4 h5 => HIH.out W st' j o' HL.out.ij hjl h1 h2 h3 h4 h5
          have HPO2 : Hid ((placeOf wr B).toNat = j) := by show _ = _; rw [HPO.out]; rfl
          have HKTX := Lib.hid hktx
          clear ka hL1 HTX HKA HPO HIH hktx
          generalize pos s acc[j].2 = Q at *
          generalize (lineCol (s.data.toList.take Q)).1 = kli at *
          generalize (lineCol (s.data.toList.take Q)).2 = kco at *
          generalize hacc : acc[j] = aj at *
          generalize aj.1 = k at *
          have r0 := HL1.out.rb.cell 0 _ rfl
          have r1 := HL1.out.rb.cell 1 _ rfl
          have rl := HL1.out.rb.lt
          have hgr : g < W1.heap.size := by omega
          go_region
          go_upto_region 13 with fail
          refine wp_world ?_
          intro W2 hW2
          have hb2 : Below W1.heap.size W1 W2 := by rw [hW2]; exact belowN ((Below.refl _ W1).alloc (Nat.le_refl _) _) 1
          have hkb : Box W2 W1.heap.size [.int .i64 k.kind, .string (bs k.name), .slice kta k.attrs.length ktc, .string (bs k.text), .int .i64 Q, .int .i64 kli, .int .i64 kco] := by rw [hW2]; exact (Box.new W1 _ _ _ rfl).drew
          have hL2 := HL1.out.later hb2
          have hnk : nb < W1.heap.size := HL1.out.made.box.lt
          clear hW2 hb2 k0 k1 k2 k3 k4 k5 k6 r0 r1 rl hgr HL
          have HL2 := Lib.hid hL2
          have HKB := Lib.hid hkb
          have q0 := hkb.cell 0 _ rfl
          have ql := hkb.lt
          clear hkb hL2 HL1
          generalize W1.heap.size = kb at *
          by_cases hkk : k.kind = 1 ∨ k.kind = 2
          · as_aux_lemma =>
            have hcs : ((k.kind == 1) = true ∧ k.kind = 1) ∨ ((k.kind == 1) = false ∧ (k.kind == 2) = true ∧ k.kind = 2) := by
              rcases hkk with e | e
              · exact .inl ⟨by rw [e]; rfl, e⟩
              · exact .inr ⟨by rw [e]; rfl, by rw [e]; rfl, e⟩
            have HKK := Lib.hid hkk
            clear hkk
            have hdw : IntKind.i64.wrap ((st.stack.length : Int) + 1) = (st.stack.length : Int) + 1 := IntWalk.i64_in _ (by omega)
            have hG2 : w.grownBy W2.drew (some B) := HL2.out.grown.trans (grownN W2 1 _)
            have HC0 : Calls Try.prog 64 #[.pointer (some ⟨B, 0, none⟩), .int .i64 ((st.stack.length : Int) + 1), .int .i64 s.size] W2.drew (ElemOut lo B (.slice (some ⟨g, oo, none⟩) acc.length cap) s ⟨⟨t.name, t.attrs, kids⟩ :: st.stack, none, c, tx⟩ j acc W2.drew) := by
              have h := HIHJ.out W2.drew ⟨⟨t.name, t.attrs, kids⟩ :: st.stack, none, c, tx⟩ off (HL2.out.rb.drewN 1) (HTK.out _ hG2) HKK.out rfl HL2.out.cj
              have e : (((⟨t.name, t.attrs, kids⟩ : Fr) :: st.stack).length : Int) = (st.stack.length : Int) + 1 := by simp
              rw [← e]
              exact h
            obtain ⟨ka, kc, hkv⟩ := HL2.out.made.own.shape
            subst hkv
            have HC : Hid (Calls Try.prog 64 #[.pointer (some ⟨B, 0, none⟩), .int .i64 ((st.stack.length : Int) + 1), .int .i64 s.size] W2.drew (fun e w9 => ∃ (t9 : Tr) (a9 : Option Addr) (b9 c9 : Nat) (d9 : Option Addr) (e9 f9 : Nat), e = .returned (.agg #[.string (bs t9.name), .slice a9 b9 c9, .slice d9 e9 f9, .string (bs t9.text)]) ∧ KidPk lo B b1 nb (.slice (some ⟨g, oo, none⟩) acc.length cap) s st i acc t P li co (.slice ta t.attrs.length tc) w j kids L ka kc w9 (t9, .slice a9 b9 c9, .slice d9 e9 f9))) :=
              HC0.mono fun e w9 h9 => LI.call (HL2.out.later (belowN (Below.refl _ W2) 1)) HRUN.out.1 HK1.out hBl hb1n hb1B h9
            have n2 := HL2.out.made.box.cell 2 _ rfl
            have nl := HL2.out.made.box.lt
            have hLj := HL2.out.lj
            have HBY : Hid ((L.length + 1) * 80 ≤ 140737488355328) := by show _ ≤ _; have := HL2.out.jl; omega
            clear HC0
            clear hG2 HIHJ
            have HCS := Lib.hid hcs
            have HQ0 := Lib.hid q0
            clear hcs q0
            go_cut [95] from 54 to 174 (fun u wx => u = .bool true ∧ wx = W2)
            case first =>
              have q0 := HQ0.out
              rcases HCS.out with ⟨hk1', -⟩ | ⟨hk1', hk2', -⟩
              all_goals
                clear HCS HQ0 HC n2 nl HBY
                go_wp2_with fail
                go_meet
                exact ⟨rfl, rfl⟩
            case rest =>
              obtain ⟨rfl, hwc⟩ := hcut
              obtain rfl : W2 = wc := hwc.symm
              clear HCS HQ0 ql
              go_upto_region 14 with fail
              go_cut [104] from 54 to 174 (fun _ wx => ∃ (j' c' : Nat) (kids' : List Tr) (L' : List TrV) (kv' : Value) (bad' off' : Int), j < j' ∧ j' ≤ acc.length ∧ LI lo B b1 nb (.slice (some ⟨g, oo, none⟩) acc.length cap) s st i acc t P li co (.slice ta t.attrs.length tc) w wx j' c' kids' false L' kv' bad' off')
              case first =>
               rename_i J K' hJ hK
               go_region_law (first | (refine step_append_one rfl (.tmp 97) (.tmp 103) 52 rfl (nb + 1) 54 Try.underlying52 info_node rfl (by decide) trC_len (.slice ka L.length kc) L (by simp [Act.eval]) HPK.out.own w9.heap.size (t9, .slice a9 b9 c9, .slice d9 e9 f9) (by simp [Act.eval]) HPK.out.new HPK.out.one HBY.out (by decide) HPK.out.hb (w9.heap.size + 1) HPK.out.sz ?_; intro g8 cap8 w8 hown8 hgrow8 hat8 hlt8; obtain ⟨hb8, hf8⟩ := HPK.out.fin g8 cap8 w8 hown8 hgrow8 hat8; have z2 := hb8.cell 2 _ rfl; have zf := hb8.free 2; have zl := hb8.lt; have HF8 := Lib.hid hf8; clear hown8 hgrow8 hat8 hb8 hf8) | (go_simp; go_at_call 64; refine HC.out.mono ?_; rintro e w9 ⟨t9, a9, b9, c9, d9, e9, f9, rfl, PK⟩; have n2' := PK.cell; have nl' := PK.lt; have HPK := Lib.hid PK; clear PK))
               all_goals
                obtain ⟨j', c', bad', off', hj1, hj2, hnew⟩ := HF8.out
                first | refine hK _ _ (Met.intro (hJ _ _ ?_)) | refine Met.intro (hJ _ _ ?_)
                (repeat apply Exists.intro)
                exact ⟨⟨j', c', _, _, _, bad', off', hj1, hj2, hnew⟩, rfl⟩
              case rest =>
                obtain ⟨j', c', kids', L', kv', bad', off', hj1, hj2, hnew⟩ := hcut
                have hpo : (placeOf wc B).toNat = j' := by
                  have h2 : placeOf wc B = ((j' : Nat) : Int) := by unfold placeOf; rw [hnew.rb.cell 1 _ rfl]
                  rw [h2]; rfl
                have HPN := Lib.hid hpo
                have HNEW := Lib.hid hnew
                clear hnew hpo
                go_wp2
                go_roundw
                case rel => exact ⟨j', c', _, false, _, _, bad', off', rfl, HNEW.out⟩
                case measure => rw [HPN.out, HPO2.out]; omega
          · have hn1 : (k.kind == 1) = false := beq_eq_false_iff_ne.2 fun e => hkk (.inl e)
            have hn2 : (k.kind == 2) = false := beq_eq_false_iff_ne.2 fun e => hkk (.inr e)
            have r1 := HL2.out.rb.cell 1 _ rfl
            have rf1 := HL2.out.rb.free 1
            have rl := HL2.out.rb.lt
            have hjj : IntKind.i64.wrap ((j : Int) + 1) = (j : Int) + 1 := IntWalk.i64_in _ (by omega)
            have hkbB : B ≠ kb := by omega
            have hR2 : RB (W2.setCell ⟨B, 1, none⟩ (.int .i64 ((j : Int) + 1))) B (.slice (some ⟨g, oo, none⟩) acc.length cap) ((j : Int) + 1) c 0 off := HL2.out.rb.set 1 _
            have hg2 := setCell_grown W2 B 1 (.int .i64 ((j : Int) + 1))
            have hm2 := HL2.out.made.grownB hg2
            have hr2 := HL2.out.res.grownB hg2 (by omega)
            have ht2 := HL2.out.tok.grownB hg2 (by omega)
            have hw2 := HL2.out.grown.trans hg2
            have hx2 := HKB.out.grownB hg2 (by omega)
            have hij := HL2.out.ij
            have hcj := HL2.out.cj
            have hlj := HL2.out.lj
            go_upto_region 17 with fail
            refine wp_world ?_
            intro W3 hW3
            rw [← hW3] at hR2 hm2 hr2 ht2 hw2 hx2
            clear hW3 hg2 q0 ql r1 rf1 rl HL2 HKB
            have HR2 := Lib.hid hR2
            have HM2 := Lib.hid hm2
            have HRS2 := Lib.hid hr2
            have HT2 := Lib.hid ht2
            have HW2 := Lib.hid hw2
            have q0 := hx2.cell 0 _ rfl
            have q1 := hx2.cell 1 _ rfl
            have q3 := hx2.cell 3 _ rfl
            have q4 := hx2.cell 4 _ rfl
            have ql := hx2.lt
            have m0 := hm2.box.cell 0 _ rfl
            have ml := hm2.box.lt
            have HX2 := Lib.hid hx2
            clear hR2 hm2 hr2 ht2 hw2 hx2
            by_cases hk3 : k.kind = 3
            · have hb3 : (k.kind == 3) = true := by rw [hk3]; rfl
              have hE := bs_beq2 k.name t.name
              have hend : stepB ⟨⟨t.name, t.attrs, kids⟩ :: st.stack, none, c, tx⟩ k = if t.name = k.name then .ok (closeB ⟨t.name, t.attrs, kids⟩ st.stack none c) else .bad 14 := by
                unfold stepB
                rw [if_neg (by rw [hk3]; decide), if_neg (by rw [hk3]; decide), if_neg (by rw [hk3]; decide), if_pos hk3]
                rfl
              have HEND := Lib.hid hend
              clear hend
              by_cases hnm : t.name = k.name
              · as_aux_lemma =>
                rw [decide_eq_true hnm.symm] at hE
                have HNM := Lib.hid hnm
                clear hnm
                have hm := HM2.out
                have hr := HRS2.out
                have hg := HW2.out
                have hR := HR2.out
                obtain ⟨ka, kn, kc, hkv⟩ : ∃ ka kn kc, kv = .slice ka kn kc := by obtain ⟨a, b, e⟩ := hm.own.shape; exact ⟨_, _, _, e⟩
                subst hkv
                have y0 := hr.cell 0 _ rfl
                have y1 := hr.cell 1 _ rfl
                have y2 := hr.cell 2 _ rfl
                have y3 := hr.cell 3 _ rfl
                have yf0 := hr.free 0
                have yf1 := hr.free 1
                have yf2 := hr.free 2
                have yf3 := hr.free 3
                have yl := hr.lt
                have n0 := hm.box.cell 0 _ rfl
                have n1 := hm.box.cell 1 _ rfl
                have n2 := hm.box.cell 2 _ rfl
                have n3 := hm.box.cell 3 _ rfl
                have nl := hm.box.lt
                have hne : w.heap.size ≠ nb := by have := hm.ge; omega
                have HFIN := Lib.hid (li_fin hBl hm hr hg hR)
                clear hm hr hg hR
                go_wp2
                obtain ⟨e0, e1, e2, e3⟩ := HFIN.out
                unfold resN at e0 e1 e2 e3
                clear HFIN y0 y1 y2 y3 yf0 yf1 yf2 yf3 n0 n1 n2 n3
                generalize (((W3.setCell ⟨w.heap.size, 0, none⟩ (.string (bs t.name))).setCell ⟨w.heap.size, 1, none⟩ (.slice ta t.attrs.length tc)).setCell ⟨w.heap.size, 2, none⟩ (.slice ka kn kc)).setCell ⟨w.heap.size, 3, none⟩ (.string ⟨#[]⟩) = W6 at *
                have d0 := e0.cell 0 _ rfl
                have d1 := e0.cell 1 _ rfl
                have d2 := e0.cell 2 _ rfl
                have d3 := e0.cell 3 _ rfl
                refine bodyPost_ret (v := .agg #[.string (bs t.name), .slice ta t.attrs.length tc, .slice ka kn kc, .string ⟨#[]⟩]) (by simp [results, Try.results64, go_sem, d0, d1, d2, d3]) rfl ?_
                refine ⟨_, _, _, rfl, e1, e2, .inr ⟨⟨t.name, t.attrs, kids⟩, j + 1, c, off, rfl, by omega, by omega, by omega, by simpa using e3, ?_⟩⟩
                exact HSTP.out _ (by rw [HEND.out, if_pos HNM.out])
              · as_aux_lemma =>
                rw [decide_eq_false (fun e => hnm e.symm)] at hE
                have HNM := Lib.hid hnm
                have HREF := Lib.hid (refFail_any W3 B _ _ _ _ 14 Q HR2.out)
                clear hnm
                go_wp2_with fail
                refine HREF.out.mono ?_
                rintro e W4 ⟨rfl, hR, hg4⟩
                have hm := HM2.out.grownB hg4
                have hr := HRS2.out.grownB hg4 (by omega)
                have hg := HW2.out.trans hg4
                clear hg4 q0 q1 q3 q4 ql m0 ml HREF
                obtain ⟨ka, kn, kc, hkv⟩ : ∃ ka kn kc, kv = .slice ka kn kc := by obtain ⟨a, b, e⟩ := hm.own.shape; exact ⟨_, _, _, e⟩
                subst hkv
                have y0 := hr.cell 0 _ rfl
                have y1 := hr.cell 1 _ rfl
                have y2 := hr.cell 2 _ rfl
                have y3 := hr.cell 3 _ rfl
                have yf0 := hr.free 0
                have yf1 := hr.free 1
                have yf2 := hr.free 2
                have yf3 := hr.free 3
                have yl := hr.lt
                have n0 := hm.box.cell 0 _ rfl
                have n1 := hm.box.cell 1 _ rfl
                have n2 := hm.box.cell 2 _ rfl
                have n3 := hm.box.cell 3 _ rfl
                have nl := hm.box.lt
                have hne : w.heap.size ≠ nb := by have := hm.ge; omega
                have HFIN := Lib.hid (li_fin hBl hm hr hg hR)
                clear hm hr hg hR
                go_wp2
                obtain ⟨e0, e1, e2, e3⟩ := HFIN.out
                unfold resN at e0 e1 e2 e3
                clear HFIN y0 y1 y2 y3 yf0 yf1 yf2 yf3 n0 n1 n2 n3
                generalize (((W4.setCell ⟨w.heap.size, 0, none⟩ (.string (bs t.name))).setCell ⟨w.heap.size, 1, none⟩ (.slice ta t.attrs.length tc)).setCell ⟨w.heap.size, 2, none⟩ (.slice ka kn kc)).setCell ⟨w.heap.size, 3, none⟩ (.string ⟨#[]⟩) = W6 at *
                have d0 := e0.cell 0 _ rfl
                have d1 := e0.cell 1 _ rfl
                have d2 := e0.cell 2 _ rfl
                have d3 := e0.cell 3 _ rfl
                refine bodyPost_ret (v := .agg #[.string (bs t.name), .slice ta t.attrs.length tc, .slice ka kn kc, .string ⟨#[]⟩]) (by simp [results, Try.results64, go_sem, d0, d1, d2, d3]) rfl ?_
                refine ⟨_, _, _, rfl, e1, e2, .inl ⟨14, aj.2, j + 1, c, by decide, by omega, by omega, by omega, HSTX.out _ (by rw [HEND.out, if_neg HNM.out]), ?_⟩⟩
                rw [show pos s aj.2 = Q from HTP.out]
                simpa using e3
            · have hb3 : (k.kind == 3) = false := beq_eq_false_iff_ne.2 hk3
              have hpl : placeOf W3 B = (j : Int) + 1 := by unfold placeOf; rw [HR2.out.cell 1 _ rfl]
              have HPL : Hid ((placeOf W3 B).toNat = j + 1) := by show _ = _; rw [hpl]; omega
              have hcast : RB W3 B (.slice (some ⟨g, oo, none⟩) acc.length cap) ((j + 1 : Nat) : Int) c 0 off := by simpa using HR2.out
              have HR3 := Lib.hid hcast
              have HLK : Hid (stepB ⟨⟨t.name, t.attrs, kids⟩ :: st.stack, none, c, tx⟩ k = .ok ⟨⟨t.name, t.attrs, kids⟩ :: st.stack, none, c, tx⟩ → LI lo B b1 nb (.slice (some ⟨g, oo, none⟩) acc.length cap) s st i acc t P li co (.slice ta t.attrs.length tc) w W3 (j + 1) c kids tx L kv 0 off) := fun h =>
                ⟨HM2.out, HR3.out, HRS2.out, HT2.out, HW2.out, by omega, by omega, by omega, by omega, .inl ⟨rfl, fun _ => HSTP.out _ h, fun h => absurd (HK1.out.symm.trans h) (by decide), fun h => by obtain ⟨ks, t', h1, h2⟩ := HRUN.out.2 h; exact ⟨ks, t', h1, Nat.le_trans h2 (tmax_mono (Nat.le_succ j))⟩⟩⟩
              clear hpl hcast HR2
              by_cases hk4 : k.kind = 4
              rotate_left
              · as_aux_lemma =>
                have hb4 : (k.kind == 4) = false := beq_eq_false_iff_ne.2 hk4
                have hb5 : (k.kind != 4) = true := by rw [bne, hb4]; rfl
                have hok : stepB ⟨⟨t.name, t.attrs, kids⟩ :: st.stack, none, c, tx⟩ k = .ok ⟨⟨t.name, t.attrs, kids⟩ :: st.stack, none, c, tx⟩ := by
                  unfold stepB
                  rw [if_neg hk4, if_neg (fun e => hkk (.inl e)), if_neg (fun e => hkk (.inr e)), if_neg hk3]
                have HN := Lib.hid (HLK.out hok)
                clear hok hkk hk3 hk4
                go_wp2
                go_roundw
                case rel => exact ⟨j + 1, c, kids, tx, L, kv, 0, off, rfl, HN.out⟩
                case measure => rw [HPL.out, HPO2.out]; omega
              · have hb4 : (k.kind == 4) = true := by rw [hk4]; rfl
                have hb5 : (k.kind != 4) = false := by rw [bne, hb4]; rfl
                have hst4 : stepB ⟨⟨t.name, t.attrs, kids⟩ :: st.stack, none, c, tx⟩ k = lettersB ⟨⟨t.name, t.attrs, kids⟩ :: st.stack, none, c, tx⟩ k.text := by unfold stepB; rw [if_pos hk4]
                by_cases hemp : k.text = []
                · as_aux_lemma =>
                  have he : (bs k.text : S).toList.isEmpty = true := by rw [empty_data, bs_size, hemp]; rfl
                  have hok : stepB ⟨⟨t.name, t.attrs, kids⟩ :: st.stack, none, c, tx⟩ k = .ok ⟨⟨t.name, t.attrs, kids⟩ :: st.stack, none, c, tx⟩ := by
                    rw [hst4, hemp]; rfl
                  have HN := Lib.hid (HLK.out hok)
                  clear hok hkk hk3 hk4 hst4 hemp
                  go_wp2
                  go_roundw
                  case rel => exact ⟨j + 1, c, kids, tx, L, kv, 0, off, rfl, HN.out⟩
                  case measure => rw [HPL.out, HPO2.out]; omega
                · have he : (bs k.text : S).toList.isEmpty = false := by rw [empty_data, bs_size]; simpa using hemp
                  have hne : k.text.isEmpty = false := by cases h : k.text with | nil => exact absurd h hemp | cons a b => rfl
                  have hktl : k.text.length ≤ 2000000 := HKTX.out
                  cases tx with
                  | true =>
                    as_aux_lemma =>
                    obtain ⟨ks, t', hks, htl⟩ := HRUN.out.2 rfl
                    obtain ⟨L', tn, tas, tks, x, ya, yk, g8, cap8, rfl, hx, rfl, hc8, hm8, hg8, hnb8, e3, ef⟩ := HM2.out.last hks
                    have hok : stepB ⟨⟨t.name, t.attrs, kids⟩ :: st.stack, none, c, true⟩ k = .ok ⟨(⟨t.name, t.attrs, kids⟩ : Fr).more k.text :: st.stack, none, c, true⟩ := by
                      rw [hst4]; simp only [lettersB, hne]; rfl
                    rw [hx] at htl
                    have hxl : x.length + k.text.length ≤ tmax (j + 1) := by rw [tmax_succ]; omega
                    have hlj' : L'.length + 1 ≤ j := by simpa using hlj
                    obtain ⟨L9, hL9⟩ := LI.more (lo := lo) (B := B) (b1 := b1) (nb := nb) (s := s) (st := st) (i := i) (acc := acc) (t := t) (P := P) (li := li) (co := co) (w := w) (W := W3) (kids := kids) (L := L') (g := g8) (cap := cap8) (n := tn) (x := x) (ss := k.text) (a := tas) (k := tks) (ya := ya) (yk := yk) (tx' := true) (j' := j + 1) (c' := c) (off' := off) HM2.out HRS2.out HT2.out HW2.out hBl hb1n HR3.out (by omega) (by omega) (by omega) (by omega) HK1.out (HSTP.out _ hok) hxl
                    have m2 := HM2.out.box.cell 2 _ rfl
                    obtain ⟨T1, hT1⟩ : ∃ T1 : S, T1 = bs x := ⟨_, rfl⟩
                    obtain ⟨S1, hS1⟩ : ∃ S1 : S, S1 = bs k.text := ⟨_, rfl⟩
                    have hsum : ¬ 9223372036854775807 < T1.size + S1.size := by
                      rw [hT1, hS1, bs_size, bs_size]
                      have := tmax_le (n := j + 1) (by omega)
                      omega
                    have hcat : T1 ++ S1 = bs (x ++ k.text) := by rw [hT1, hS1, bs_append]
                    rw [← hcat] at hL9
                    rw [← hT1] at e3
                    rw [← hS1] at q3 he
                    have HL9 := Lib.hid hL9
                    have HPL9 : Hid ((placeOf ((W3.setCell ⟨g8, L'.length * 4 + 3, none⟩ (.string (T1 ++ S1))).drew) B).toNat = j + 1) := by
                      show _ = _
                      have h1 : ((W3.setCell ⟨g8, L'.length * 4 + 3, none⟩ (.string (T1 ++ S1))).drew).cell? ⟨B, 1, none⟩ = W3.cell? ⟨B, 1, none⟩ := setCell_far W3 g8 _ _ (.inl (by omega))
                      have h2 : placeOf ((W3.setCell ⟨g8, L'.length * 4 + 3, none⟩ (.string (T1 ++ S1))).drew) B = ((j + 1 : Nat) : Int) := by unfold placeOf; rw [h1, HR3.out.cell 1 _ rfl]
                      rw [h2]; rfl
                    have hz1 : IntKind.i64.wrap (L'.length : Int) = (L'.length : Int) := IntWalk.i64_in _ (by omega)
                    have hz2 : (L'.length : Int) < (L'.length : Int) + 1 := by omega
                    have hz3 : (0 : Int) ≤ (L'.length : Int) := by omega
                    clear hL9 hT1 hS1 hcat
                    clear HLK HX2
                    generalize L'.length = z at *
                    go_wp2
                    go_still_tail 11, (by kernel_rfl)
                    change wpList _ _ _ _ _ W3.drew
                    go_wp2
                    go_roundw
                    case rel => exact ⟨j + 1, c, _, true, L9, _, 0, off, rfl, HL9.out.later (belowN (Below.refl _ _) 1)⟩
                    case measure => rw [HPL9.out, HPO2.out]; omega
                  | false =>
                    as_aux_lemma =>
                    obtain ⟨S1, hS1⟩ : ∃ S1 : S, S1 = bs k.text := ⟨_, rfl⟩
                    have HS1 := Lib.hid hS1
                    rw [← hS1] at q3 he
                    have HX3 := HX2.out
                    rw [← hS1] at HX3
                    have HX4 := Lib.hid HX3
                    have hst5 : stepB ⟨⟨t.name, t.attrs, kids⟩ :: st.stack, none, c, false⟩ k = if 4096 < c + 1 then .bad 2 else .ok ⟨⟨t.name, t.attrs, kids ++ [.mk [] [] [] k.text]⟩ :: st.stack, none, c + 1, true⟩ := by
                      rw [hst4]; simp only [lettersB, hne]; rfl
                    have HST5 := Lib.hid hst5
                    have r2 := HR3.out.cell 2 _ rfl
                    have rf2 := HR3.out.free 2
                    have rl := HR3.out.lt
                    have hcw : IntKind.i64.wrap ((c : Int) + 1) = (c : Int) + 1 := IntWalk.i64_in _ (by omega)
                    have hg2 := setCell_grown W3 B 2 (.int .i64 ((c : Int) + 1))
                    have hR4 : RB (W3.setCell ⟨B, 2, none⟩ (.int .i64 ((c : Int) + 1))) B (.slice (some ⟨g, oo, none⟩) acc.length cap) ((j + 1 : Nat) : Int) ((c : Int) + 1) 0 off := HR3.out.set 2 _
                    have hm4 := HM2.out.grownB hg2
                    have hr4 := HRS2.out.grownB hg2 (by omega)
                    have ht4 := HT2.out.grownB hg2 (by omega)
                    have hw4 := HW2.out.trans hg2
                    have hx4 := HX4.out.grownB hg2 (by omega)
                    clear hS1 HX3 hst5 hst4 hkk hk3 hk4 hemp hne HLK
                    go_upto_region 25 with fail
                    refine wp_world ?_
                    intro W4 hW4
                    rw [← hW4] at hR4 hm4 hr4 ht4 hw4 hx4
                    clear hW4 hg2 r2 rf2 rl q0 q1 q3 q4 ql m0 ml
                    obtain ⟨ka, kc, hkv⟩ := hm4.own.shape
                    subst hkv
                    have hcj' : ((c : Int) + 1) = ((c + 1 : Nat) : Int) := by omega
                    rw [hcj'] at hR4
                    have HREF := Lib.hid (refFail_any W4 B _ _ _ _ 2 Q hR4)
                    have r2 := hR4.cell 2 _ rfl
                    have rl := hR4.lt
                    have q4 := hx4.cell 4 _ rfl
                    have ql := hx4.lt
                    have hlj2 : L.length ≤ j := hlj
                    have hlj3 : (L.length + 1) * 80 ≤ 140737488355328 := by omega
                    have HLJ3 := Lib.hid hlj3
                    have hktl2 : k.text.length ≤ tmax (j + 1) := by rw [tmax_succ]; omega
                    have HKTL := Lib.hid hktl2
                    have HN4 : Hid (∀ W5 bad2 off2, W4.grownBy W5 (some B) → RB W5 B (.slice (some ⟨g, oo, none⟩) acc.length cap) (j + 1 : Nat) (c + 1 : Nat) bad2 off2 → ((bad2 = 0 ∧ ¬ 4096 < c + 1) ∨ (bad2 = 2 ∧ off2 = (Q : Nat) ∧ 4096 < c + 1)) → NewT lo B b1 nb kb (.slice (some ⟨g, oo, none⟩) acc.length cap) s st i acc t P li co (.slice ta t.attrs.length tc) w j c kids L ka kc k.text [.int .i64 k.kind, .string (bs k.name), .slice kta k.attrs.length ktc, .string S1, .int .i64 Q, .int .i64 kli, .int .i64 kco] W5 bad2 off2) := by
                      intro W5 bad2 off2 hg5 hR5 hor
                      refine ⟨hm4.grownB hg5, hR5, hr4.grownB hg5 (by omega), ht4.grownB hg5 (by omega), hw4.trans hg5, hx4.grownB hg5 (by omega), ?_⟩
                      rcases hor with ⟨rfl, hbg⟩ | ⟨rfl, rfl, hbg⟩
                      · exact .inl ⟨rfl, fun _ => HSTP.out _ (by rw [HST5.out, if_neg hbg]), fun h => absurd (HK1.out.symm.trans h) (by decide), fun _ => ⟨kids, _, rfl, HKTL.out⟩⟩
                      · exact .inr ⟨by decide, aj.2, HSTX.out _ (by rw [HST5.out, if_pos hbg]), by rw [show pos s aj.2 = Q from HTP.out]⟩
                    have HR4 := Lib.hid hR4
                    clear hlj3 hktl2 hR4 hm4 hr4 ht4 hw4 hx4 hlj hcj' HM2 HRS2 HT2 HW2 HX2 HX4 HR3 HPL HST5 HSTP HSTX HRUN HKTL
                    go_upto_if 161 with fail
                    go_cut [] from 54 to 174 (fun wx => ∃ (bad2 off2 : Int), Hid (NewT lo B b1 nb kb (.slice (some ⟨g, oo, none⟩) acc.length cap) s st i acc t P li co (.slice ta t.attrs.length tc) w j c kids L ka kc k.text [.int .i64 k.kind, .string (bs k.name), .slice kta k.attrs.length ktc, .string S1, .int .i64 Q, .int .i64 kli, .int .i64 kco] wx bad2 off2))
                    case first =>
                      by_cases hbg : 4096 < c + 1
                      · have hbI : (4096 : Int) < ((c + 1 : Nat) : Int) := by omega
                        have HBG := Lib.hid hbg
                        clear hbg
                        go_wp2_with fail
                        refine HREF.out.mono ?_
                        rintro e W5 ⟨rfl, hR5, hg5⟩
                        have HN5 := Lib.hid (HN4.out _ _ _ hg5 hR5 (.inr ⟨rfl, rfl, HBG.out⟩))
                        clear hR5 hg5 r2 rl q4 ql
                        go_wp2_with fail
                        go_meet
                        exact ⟨_, _, HN5⟩
                      · have hbI : ¬ (4096 : Int) < ((c + 1 : Nat) : Int) := by omega
                        have HN5 := Lib.hid (HN4.out _ _ _ (World.grownBy.refl _ _) HR4.out (.inl ⟨rfl, hbg⟩))
                        clear hbg
                        go_wp2_with fail
                        go_meet
                        exact ⟨_, _, HN5⟩
                    case rest =>
                      obtain ⟨bad2, off2, HN5⟩ := hcut
                      clear r2 rl q4 ql HREF HN4 HR4
                      have q3 := HN5.out.kbx.cell 3 _ rfl
                      have ql := HN5.out.kbx.lt
                      have m2 := HN5.out.made.box.cell 2 _ rfl
                      have ml := HN5.out.made.box.lt
                      have HOW := Lib.hid (HN5.out.made.own.alloc (.cells (trC (tx0 k.text)).toArray 54))
                      have HSL := Lib.hid (tx0_lit k.text wc)
                      have HFIN := Lib.hid (HN5.out.fin hBl hb1n hij hjl hcj hlj2)
                      rw [tx0_cells, ← HS1.out] at HOW HSL HFIN
                      have HMG : Hid (nb + 1 ≤ (wc.alloc (.cells #[.string ⟨#[]⟩, .slice none 0 0, .slice none 0 0, .string S1] 54)).heap.size) := by show _ ≤ _; simp; omega
                      have HBY2 : Hid ((L.length + [tx0 k.text].length) * 80 ≤ 140737488355328) := HLJ3.out
                      clear HS1
                      go_wp2_with (at_builtin; go_loud (refine wpList_append_slice _ rfl _ _ 52 rfl (nb + 1) 54 Try.underlying52 info_node rfl (by decide) trC_len (.slice ka L.length kc) L rfl HOW.out _ [tx0 k.text] rfl HSL.out (tx0_one _) HBY2.out (by decide) HMG.out ?_); intro v8 w8 hown8 hgrow8 hloc8; obtain ⟨⟨a8, cap8, e8⟩, hb8, hnew⟩ := HFIN.out v8 w8 hown8 hgrow8 hloc8; subst e8; have m2' := hb8.cell 2 _ rfl; have mf2 := hb8.free 2; have ml8 := hb8.lt; have HPN := Lib.hid (LI.place hnew); have HNEW := Lib.hid hnew; clear hnew hown8 hgrow8 hloc8 hb8)
                      clear m2 q3 ql ml
                      go_wp2
                      go_roundw
                      case rel => exact ⟨j + 1, c + 1, _, true, _, _, bad2, off2, rfl, HNEW.out⟩
                      case measure => rw [HPN.out, HPO2.out]; omega

end Go.Proofs.Ytpchljiiappmnaa
