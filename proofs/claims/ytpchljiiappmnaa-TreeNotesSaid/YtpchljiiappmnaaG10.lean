/- The walk of the builder's begin where an error is returned; its conditions stand in the theorem. -/
import Derived.Test.YtpchljiiappmnaaG9
import Derived.Deep.RegionLawGrows
import Derived.Deep.CutRange
import Derived.Deep.CutBlock
namespace Go.Proofs.Ytpchljiiappmnaa
open Go Go.RowKit
variable {lo : Nat}

theorem info_ptr : (Try.prog.info? 124).map (fun i => (i.zero, i.size, i.bytes)) = some (some (.pointer none), 1, 8) := by kernel_rfl
theorem ptC_one (p : Nat × Nat) : ∀ u ∈ ptC p, u.oneCell' = true := by intro u hu; simp [ptC] at hu; subst hu; rfl

/-- The pointers are appended to, as a step of a region that draws. -/
theorem step_append_open {ops : Array Oper} {o : Oper} {a : Act} {w : World} {K : Act → World → Prop} {Q : Exit → Act → World → Prop} {E : Prop} (hgd : o.guard = none) (s x : Operand)
    (ho : o.op = .call { callee := .builtin .append, args := #[s, x], argTypes := #[95, 95] }) {B : Nat} (ov : Value) (ps : List (Nat × Nat)) (hs : a.eval s = ov) (hopn : OpenSl 124 B w ov ps) (H : Nat) (p : Nat × Nat) (hx : a.eval x = .slice (some ⟨H, 0, none⟩) 1 1)
    (hnew : w.cell? ⟨H, 0, none⟩ = some (.pointer (some ⟨p.1, p.2, none⟩))) (hl : ps.length ≤ 1000000) (hB : B + 1 ≤ w.heap.size) (N : Nat) (hN : w.heap.size = N)
    (h : ∀ g cap w', Owns (B + 1) 124 1 ptC w' (.slice (some ⟨g, 0, none⟩) (ps.length + 1) cap) (ps ++ [p]) → w.grownBy w' ov.ownBlock → (ov.ownBlock = some g ∨ N ≤ g) → K (a.put o.dst (.slice (some ⟨g, 0, none⟩) (ps.length + 1) cap)) w') :
    if Region.wanted o (yielded ops a.tmps) = true then Oper.wp Try.prog o a w K Q else E := by
  have hnews : ∀ j u, (ptC p)[j]? = some u → w.cell? ⟨H, j, none⟩ = some u := fun j u hu => by
    cases j with
    | zero => simp [ptC] at hu; subst hu; exact hnew
    | succ j => simp [ptC] at hu
  rcases hopn.owns with hown | ⟨g, rfl, hat⟩
  · exact step_append_one hgd s x 95 ho (B + 1) 124 Try.underlying95 info_ptr rfl (by decide) ptC_len ov ps hs hown H p hx hnews (ptC_one p) (by omega) (by decide) hB N hN (fun g cap w' h1 h2 h3 _ => h g cap w' h1 h2 (h3.imp id fun e => by omega))
  · obtain ⟨i, hi, hz, hsize, hby⟩ := info_parts info_ptr
    refine step_append_grows hgd s x 95 ho 124 i _ 1 8 Try.underlying95 hi hz hsize hby rfl (by decide) (some ⟨g, 0, none⟩) ps.length ps.length (ps.flatMap ptC) hs (by simp) (flat_len ptC_len ps) (fun b hb j u hu => by cases hb; rw [Addr.add_lit]; exact hat j u hu)
      ⟨H, 0, none⟩ 1 1 (ptC p) hx rfl (fun j u hu => by rw [Addr.add_lit, Nat.zero_add]; exact hnews j u hu) (ptC_one p) (by omega) (by unfold maxLen; omega) (by omega) ?_
    intro v' w' h1 h2
    rcases h1.2 with ⟨-, h0⟩ | ⟨g2, cap2, cur, rfl, hb, hg, hrest⟩
    · omega
    · refine h g2 cap2 w' ⟨by rw [flat_len ptC_len], ?_⟩ ⟨h2.os, h2.tape, h2.output, h2.size, fun k hk _ => h2.block k hk (by simp)⟩ (.inr ?_)
      · refine .inr ⟨g2, cap2, cur, by simp, by omega, hg, by simpa using hrest.1, hrest.2.1, hrest.2.2.1, ?_⟩
        rw [List.flatMap_append]; simpa using hrest.2.2.2
      · omega

/-- What begin returns and leaves: blocks that aren't the builder's are as they were. -/
def BeginOut (lo : Nat) (X : Nat → Prop) (w : World) (B n : Nat) : StR → Ending → World → Prop
  | .ok st => fun e w' => StepOut lo w B n (.ok st) e w' ∧ KeptX X w w'
  | .bad x => StepOut lo w B n (.bad x)
def tokV (t : Tk) (av : Value) (p q r : Int) : Value := .agg #[.int .i64 t.kind, .string (bs t.name), av, .string (bs t.text), .int .i64 p, .int .i64 q, .int .i64 r]
/-- A token's attributes, in blocks ahead of B. -/
def AttB (lo B : Nat) (w : World) (av : Value) (l : List At2) : Prop := SliceX 2 atC (fun k => B ≤ k ∨ k < lo) w av l
theorem AttB.x {B : Nat} {w w' : World} {av : Value} {l : List At2} {X : Nat → Prop} (h : AttB lo B w av l) (hb : Below B w w') (hX : ∀ k, X k → B ≤ k ∨ k < lo) : SliceX 2 atC X w' av l :=
  SliceX.keep h ⟨hb.size, fun k j _ hn => hb.cell (p := ⟨k, j, none⟩) (by exact Nat.lt_of_not_le (fun e => hn (.inl e)))⟩ (fun k _ h => hX k h)
theorem AttB.below {B : Nat} {w w' : World} {av : Value} {l : List At2} (h : AttB lo B w av l) (hb : Below B w w') : AttB lo B w' av l := h.x hb (fun _ h => h)
theorem AttB.shape {B : Nat} {w : World} {av : Value} {l : List At2} (h : AttB lo B w av l) : ∃ ao cap, av = .slice ao l.length cap := SliceX.shape h

set_option maxRecDepth 100000 in
set_option maxHeartbeats 8000000 in
theorem begin_done (w : World) (B n : Nat) (st : BSt) (X : Nat → Prop) (ov : Value) (ps : List (Nat × Nat)) (h : BOf lo w B st n X ov ps) (t : Tk) (av : Value) (p q r : Int) (hr : st.root.isSome = true) :
    Calls Try.prog 98 #[.pointer (some ⟨B, 0, none⟩), tokV t av p q r] w (BeginOut lo X w B (n + 1) (beginB st t)) := by
  have hlt := h.core.lt
  have c6 := h.core.c6
  rw [hr] at c6
  have hl : beginB st t = .bad 16 := by unfold beginB; rw [if_pos hr]
  rw [hl]
  unfold tokV
  go_enter Try.func98, Try.ntmps98
  go_wp2
  go_ret
  exact ⟨rfl, World.grownBy_alloc _ _ _, (Below.refl _ _).alloc (by omega) _⟩

set_option maxRecDepth 100000 in
set_option maxHeartbeats 8000000 in
theorem begin_deep (w : World) (B n : Nat) (st : BSt) (X : Nat → Prop) (ov : Value) (ps : List (Nat × Nat)) (h : BOf lo w B st n X ov ps) (t : Tk) (av : Value) (p q r : Int) (hr : st.root.isSome = false) (hd : 64 ≤ st.stack.length) :
    Calls Try.prog 98 #[.pointer (some ⟨B, 0, none⟩), tokV t av p q r] w (BeginOut lo X w B (n + 1) (beginB st t)) := by
  have hlt := h.core.lt
  have c6 := h.core.c6
  rw [hr] at c6
  have c4 := h.core.c4
  obtain ⟨ao, cap, rfl⟩ := h.shape
  have hl : beginB st t = .bad 2 := by unfold beginB; rw [hr, if_neg (by simp), if_pos hd]
  rw [hl]
  have hdI : (64 : Int) ≤ (st.stack.length : Int) := by omega
  have hlt2 : B < (w.heap.size + 1) := by omega
  clear h
  unfold tokV
  go_enter Try.func98, Try.ntmps98
  go_wp2
  go_ret
  exact ⟨rfl, World.grownBy_alloc _ _ _, (Below.refl _ _).alloc (by omega) _⟩

set_option maxRecDepth 100000 in
set_option maxHeartbeats 8000000 in
theorem begin_full (w : World) (B n : Nat) (st : BSt) (X : Nat → Prop) (ov : Value) (ps : List (Nat × Nat)) (h : BOf lo w B st n X ov ps) (t : Tk) (av : Value) (p q r : Int) (hr : st.root.isSome = false) (hd : ¬ 64 ≤ st.stack.length) (hc : 4096 < st.count + 1) (hn : n ≤ 1000000) :
    Calls Try.prog 98 #[.pointer (some ⟨B, 0, none⟩), tokV t av p q r] w (BeginOut lo X w B (n + 1) (beginB st t)) := by
  have hlt := h.core.lt
  have c6 := h.core.c6
  rw [hr] at c6
  have c4 := h.core.c4
  have hcn := h.cn
  obtain ⟨ao, cap, rfl⟩ := h.shape
  have hl : beginB st t = .bad 2 := by unfold beginB; rw [hr, if_neg (by simp), if_neg hd, if_pos hc]
  rw [hl]
  have hdI : ¬ (64 : Int) ≤ (st.stack.length : Int) := by omega
  have hdd : decide (st.count + 1 ≤ 4096) = false := by rw [decide_eq_false_iff_not]; omega
  have hCW := fun o => h.core.below ((Below.refl _ w).alloc (Nat.le_refl _) o)
  have HO := Lib.hid fun o => one_any (w.alloc o) B st.count (hCW o).c5 ((hCW o).f 5) (by omega)
  rw [hdd] at HO
  clear h hCW
  unfold tokV
  go_enter Try.func98, Try.ntmps98
  go_wp2_with fail
  refine (HO.out _).mono ?_
  rintro e w' ⟨rfl, rfl⟩
  go_wp2
  go_ret
  exact ⟨rfl, (setCell_grown _ _ _ _).trans (World.grownBy_alloc _ _ _), (below_set (Below.refl B w) B _ _ (Nat.le_refl _)).alloc (by simp; omega) _⟩

end Go.Proofs.Ytpchljiiappmnaa

/- The walk of the builder's begin where an element begins inside of another one; its conditions stand in the theorem. -/
namespace Go.Proofs.Ytpchljiiappmnaa
open Go Go.RowKit
variable {lo : Nat}

theorem TreeOf.below {NT : TypeId} {B : Nat} {X : Nat → Prop} {w w' : World} {st : List Fr} {r : Option Tr} {ps : List (Nat × Nat)} (h : TreeOf NT B X w st r ps) (hb : Below w.heap.size w w') (hB : B < w.heap.size) : TreeOf NT B X w' st r ps :=
  h.keep (KeptX.below hb) (fun _ _ h => h) (fun _ _ h => h) (fun j _ => hb.cell (p := ⟨B, j, none⟩) hB) (fun k _ _ hr => hb.block k hr.lt)

/-- What there is behind the append of a node. -/
def KidPost (lo : Nat) (W : World) (X0 : Nat → Prop) (B b o g cap8 : Nat) (f : Fr) (fs : List Fr) (L : List TrV) (av : Value) (nm : Bs) (ats : List At2) (ya ov : Value) (qs : List (Nat × Nat)) (c d t : Value) (wx : World) : Prop :=
  ∃ X', Inner 54 X' wx b o (f.add (.mk nm ats [] [])) (L ++ [((.mk nm ats [] [] : Tr), ya, .slice none 0 0)]) av (.slice (some ⟨g, 0, none⟩) (L.length + 1) cap8) ∧ Up 54 B X' wx b o fs qs ∧
    Core 54 124 lo wx B (f.add (.mk nm ats [] []) :: fs) none X' ov (qs.reverse ++ [(b, o)]) c d t ∧ SliceX 2 atC X' wx ya ats ∧ Below B W wx ∧ KeptX X0 W wx

set_option maxRecDepth 100000 in
set_option maxHeartbeats 8000000 in
theorem begin_in (w : World) (B n : Nat) (f : Fr) (fs : List Fr) (r0 : Option Tr) (c : Nat) (tx : Bool) (X : Nat → Prop) (ov : Value) (ps : List (Nat × Nat)) (h : BOf lo w B ⟨f :: fs, r0, c, tx⟩ n X ov ps) (t : Tk) (av : Value) (p q r : Int) (hat : AttB lo B w av t.attrs)
    (hr : r0.isSome = false) (hd : ¬ 64 ≤ (f :: fs).length) (hc : ¬ 4096 < c + 1) (hn : n ≤ 1000000) :
    Calls Try.prog 98 #[.pointer (some ⟨B, 0, none⟩), tokV t av p q r] w (BeginOut lo X w B (n + 1) (beginB ⟨f :: fs, r0, c, tx⟩ t)) := by
  have hlt := h.core.lt
  have c6 := h.core.c6
  rw [hr] at c6
  have c4 := h.core.c4
  have hcn : c ≤ n := h.cn
  obtain ⟨ao, cap, rfl⟩ := h.shape
  have hl : beginB ⟨f :: fs, r0, c, tx⟩ t = .ok ⟨⟨t.name, t.attrs, []⟩ :: f :: fs, r0, c + 1, false⟩ := by simp only [beginB]; rw [hr, if_neg (by simp), if_neg hd, if_neg hc]
  rw [hl]
  simp only [List.length_cons] at hd c4
  have hdI : ¬ (64 : Int) ≤ ((fs.length + 1 : Nat) : Int) := by omega
  have hdJ : ¬ (64 : Int) ≤ (fs.length : Int) + 1 := by omega
  have hn1 : ((fs.length + 1 : Nat) : Int) ≠ 0 := by omega
  have hdd : decide (c + 1 ≤ 4096) = true := by rw [decide_eq_true_iff]; omega
  have hCW := fun o => h.core.below ((Below.refl _ w).alloc (Nat.le_refl _) o)
  have HCW := Lib.hid hCW
  have HXB := Lib.hid h.core.xB
  have HXO := Lib.hid h.core.xo
  have HO := Lib.hid fun o => one_any (w.alloc o) B c (hCW o).c5 ((hCW o).f 5) (by omega)
  rw [hdd] at HO
  have H := Lib.hid h
  clear h hCW hl hdd
  obtain ⟨ao3, cap3, hav⟩ := hat.shape
  have HAT := Lib.hid hat
  obtain ⟨N1, hN1⟩ : ∃ N1 : S, N1 = bs t.name := ⟨_, rfl⟩
  have HN1 := Lib.hid hN1
  unfold tokV
  rw [← hN1]
  clear hN1 hat
  subst hav
  go_enter Try.func98, Try.ntmps98
  go_wp2_with fail
  refine (HO.out _).mono ?_
  rintro e w' ⟨rfl, rfl⟩
  have x0 := (Box.new w [.int .i64 t.kind, .string N1, .slice ao3 t.attrs.length cap3, .string (bs t.text), .int .i64 p, .int .i64 q, .int .i64 r] 34 _ rfl)
  have x1 := x0.grownB (setCell_grown _ B 5 (.int .i64 (c + 1 : Nat))) (by omega)
  have hC1 := (HCW.out (.cells #[.int .i64 t.kind, .string N1, .slice ao3 t.attrs.length cap3, .string (bs t.text), .int .i64 p, .int .i64 q, .int .i64 r] 34)).set5 (.int .i64 (c + 1 : Nat))
  have hB1 : Below B w ((w.alloc (.cells #[.int .i64 t.kind, .string N1, .slice ao3 t.attrs.length cap3, .string (bs t.text), .int .i64 p, .int .i64 q, .int .i64 r] 34)).setCell ⟨B, 5, none⟩ (.int .i64 (c + 1 : Nat))) := below_set ((Below.refl B w).alloc (Nat.le_of_lt hlt) _) B _ _ (Nat.le_refl _)
  have HV1 : Hid (KeptX X w ((w.alloc (.cells #[.int .i64 t.kind, .string N1, .slice ao3 t.attrs.length cap3, .string (bs t.text), .int .i64 p, .int .i64 q, .int .i64 r] 34)).setCell ⟨B, 5, none⟩ (.int .i64 (c + 1 : Nat)))) := (KeptX.below ((Below.refl _ w).alloc (Nat.le_refl _) _)).trans (keptX_set _ B 5 _ HXB.out)
  have hs1 : ((w.alloc (.cells #[.int .i64 t.kind, .string N1, .slice ao3 t.attrs.length cap3, .string (bs t.text), .int .i64 p, .int .i64 q, .int .i64 r] 34)).setCell ⟨B, 5, none⟩ (.int .i64 (c + 1 : Nat))).heap.size = w.heap.size + 1 := by simp
  have a0 := x1.cell 0 _ rfl
  have a1 := x1.cell 1 _ rfl
  have a2 := x1.cell 2 _ rfl
  have e4 := hC1.c4
  have el := hC1.lt
  have al := x1.lt
  have HC1 := Lib.hid hC1
  have HB1 := Lib.hid hB1
  clear x0 x1 hC1 hB1 c4 c6 HO HCW
  generalize ((w.alloc (.cells #[.int .i64 t.kind, .string N1, .slice ao3 t.attrs.length cap3, .string (bs t.text), .int .i64 p, .int .i64 q, .int .i64 r] 34)).setCell ⟨B, 5, none⟩ (.int .i64 (c + 1 : Nat))) = W1 at *
  go_wp2_with fail
  refine Calls.world ?_
  intro W2 hW2
  have hC2 : Core 54 124 lo W2 B (f :: fs) r0 X (.slice ao (f :: fs).length cap) ps (.int .i64 (c + 1 : Nat)) (.bool r0.isSome) (.bool tx) := by rw [hW2]; exact HC1.out.below ((Below.refl _ _).alloc (Nat.le_refl _) _)
  have xn : Box W2 (w.heap.size + 1) [.string N1, .slice ao3 t.attrs.length cap3, .slice none 0 0, .string ⟨#[]⟩] := by rw [hW2]; exact Box.new W1 _ _ _ hs1
  have hB2 : Below B w W2 := by rw [hW2]; exact HB1.out.alloc (Nat.le_of_lt el) _
  have HV2 : Hid (KeptX X w W2) := by show KeptX X w W2; rw [hW2]; exact HV1.out.trans (KeptX.below ((Below.refl _ _).alloc (Nat.le_refl _) _))
  clear hW2 HV1 HC1 HB1 a0 a1 a2 e4 el al hs1
  obtain ⟨b, o, L0, av0, ao0, cap0, qs0, -, hps, -⟩ := hC2.data
  have HT := Lib.hid (top_any (by rw [hps] at hC2; exact hC2))
  have HXN := Lib.hid xn
  have HC2 := Lib.hid hC2
  have HB2 := Lib.hid hB2
  clear xn hC2 hB2
  refine HT.out.mono ?_
  rintro e w' ⟨rfl, k, rfl⟩
  have hC3 := HC2.out.drewN k
  have xn := HXN.out.drewN k
  have hB3 : Below B w (W2.drewN k) := belowN HB2.out k
  have HV3 : Hid (KeptX X w (W2.drewN k)) := HV2.out.trans (KeptX.below (belowN (Below.refl _ _) k))
  clear HV2 HC2 HXN HB2 HT
  generalize W2.drewN k = W3 at *
  have HB3 := Lib.hid hB3
  clear hB3
  have n0 := xn.cell 0 _ rfl
  have n1 := xn.cell 1 _ rfl
  have n2 := xn.cell 2 _ rfl
  have n3 := xn.cell 3 _ rfl
  have nl := xn.lt
  obtain ⟨b', o', L, av, ao2, cap2, qs, hr0, hps', inn, up, hbl, hBb, hbo, -, q2, f2⟩ := hC3.data
  obtain ⟨rfl, rfl⟩ : b = b' ∧ o = o' := by
    rw [hps] at hps'
    have := (List.append_inj' hps' rfl).2
    simpa using this
  subst hr0
  rw [hps'] at hC3
  have hLn : L.length ≤ n := by
    have h1 := H.out.kd f (by simp)
    rw [← inn.is, List.length_map] at h1; exact h1
  have hqs : qs.length = fs.length := up.len
  have hsn := H.out.sn
  simp only [List.length_cons] at hsn
  have hLi : ((L.length : Int) : Int) < (L.length : Int) + 1 := by omega
  have hL0 : (0 : Int) ≤ (L.length : Int) := by omega
  have hatX : SliceX 2 atC X W3 (.slice ao3 t.attrs.length cap3) t.attrs := HAT.out.x HB3.out (fun k hk => (Nat.lt_or_ge k lo).elim .inr fun hl => .inl (hC3.xlt k hk hl).1)
  have HAX := Lib.hid hatX
  have HC3 := Lib.hid hC3
  have HK := Lib.hid fun (W1 : World) (hb1 : Below W3.heap.size W3 W1) => @Core.step_kid lo W3 B f fs X _ _ _ _ b o L av ao2 cap2 qs hC3 inn up W1 hb1
  have HKB : Hid (∀ k, (Value.slice ao2 L.length cap2).ownBlock = some k → b < k) := fun k hk => (inn.own.rowOf hk).1
  have HOW := Lib.hid inn.own
  clear hps hps' inn up hC3 hatX xn
  have hown4 := Lib.hid ((HOW.out.alloc (.cells (trC zeroNode).toArray 54)).drew)
  have hbl4 : Hid (b < ((W3.alloc (.cells (trC zeroNode).toArray 54)).drew).heap.size) := by show _ < _; simp; omega
  have hb4 : Hid (Below W3.heap.size W3 ((W3.alloc (.cells (trC zeroNode).toArray 54)).drew)) := belowN ((Below.refl _ W3).alloc (Nat.le_refl _) _) 1
  have HNW : Hid (∀ j u, (trC zeroNode)[j]? = some u → ((W3.alloc (.cells (trC zeroNode).toArray 54)).drew).cell? ⟨W3.heap.size, j, none⟩ = some u) := fun j u hu => (Box.new W3 (trC zeroNode) 54 _ rfl).cell j u hu
  have hbs : Hid (b + 1 ≤ ((W3.alloc (.cells (trC zeroNode).toArray 54)).drew).heap.size) := by show _ ≤ _; simp; omega
  have hsz4 : Hid (((W3.alloc (.cells (trC zeroNode).toArray 54)).drew).heap.size = W3.heap.size + 1) := by show _ = _; simp
  have hbl5 : Hid ((L.length + 1) * 80 ≤ 140737488355328) := by show _ ≤ _; omega
  have HQ2 := Lib.hid (((hb4.out.cell (p := ⟨b, o + 2, none⟩) hbl).trans q2))
  have HF2 := Lib.hid (((hb4.out.frozen (p := ⟨b, o + 2, none⟩) hbl).trans f2))
  go_wp2
  go_cut [60] from 53 (fun v wx => ∃ g cap8, v = .slice (some ⟨g, 0, none⟩) (L.length + 1) cap8 ∧ KidPost lo W3 X B b o g cap8 f fs L av t.name t.attrs (.slice ao3 t.attrs.length cap3) (.slice ao (f :: fs).length cap) qs (.int .i64 (c + 1 : Nat)) (.bool (none : Option Tr).isSome) (.bool tx) wx)
  case first =>
   rename_i J K' hJ hK
   go_region_law (first | (refine step_append_one rfl (.tmp 56) (.tmp 59) 52 rfl (b + 1) 54 Try.underlying52 info_node rfl (by decide) trC_len (.slice ao2 L.length cap2) L (by simp [Act.eval, Act.put]) hown4.out W3.heap.size zeroNode (by simp [Act.eval, Act.put]) HNW.out zeroNode_one hbl5.out (by decide) hbs.out (W3.heap.size + 1) hsz4.out ?_; intro g8 cap8 w8 hown8 hgrow8 hat8 hlt8; obtain ⟨x1, x2, x3, x4, x5, x6, x7⟩ := kid_facts hbl4.out HQ2.out HF2.out HKB.out hown8 hgrow8; obtain ⟨y0, z0, t0⟩ := hown8.nodeCells 0 (by decide); obtain ⟨y1, z1, t1⟩ := hown8.nodeCells 1 (by decide); obtain ⟨y2, z2, t2⟩ := hown8.nodeCells 2 (by decide); obtain ⟨y3, z3, t3⟩ := hown8.nodeCells 3 (by decide); rw [Nat.add_zero] at y0 t0; have ho9 := Lib.hid hown8; have hg9 := Lib.hid hgrow8; have ha9 := Lib.hid hat8; clear hown8 hgrow8 hat8))
   all_goals
    obtain ⟨X', r1, r2, r3, r4, r5, r6⟩ := HK.out _ hb4.out ho9.out hg9.out (by rw [hsz4.out]; exact ha9.out) t.name t.attrs [] (.slice ao3 t.attrs.length cap3) HAX.out
    have r7 := HAX.out.keep r5 r4
    rw [← HN1.out] at r1 r2 r3 r5 r6 r7
    have hsw : ∀ (W : World) (j : Nat) (u v : Value), (W.setCell ⟨b, o + 2, none⟩ u).setCell ⟨g8, j, none⟩ v = (W.setCell ⟨g8, j, none⟩ v).setCell ⟨b, o + 2, none⟩ u := fun W j u v => setCell_comm W _ _ _ _ x4
    try simp only [hsw]
    first | refine hK _ _ (Met.intro (hJ _ _ ?_)) | refine Met.intro (hJ _ _ ?_)
    (repeat apply Exists.intro)
    exact ⟨⟨g8, cap8, rfl, X', r1, r2, r3, r7, r6, r5⟩, rfl⟩
  case rest =>
    obtain ⟨g, cap8, rfl, X', inn, up, hcr, hyX, hB9, hV9⟩ := hcut
    have HV9 : Hid (KeptX X w wc) := HV3.out.trans hV9
    clear hV9
    have c4 := hcr.c4
    have hlt9 := hcr.lt
    have q2 := inn.cells 2 _ rfl
    have hbl9 : b < wc.heap.size := hcr.xsize b inn.xb
    obtain ⟨-, -, hrow, -, hcap8, hm8⟩ := inn.own.row
    have hgl := hrow.lt
    have hw8 : IntKind.i64.wrap (L.length : Int) = (L.length : Int) := IntWalk.i64_in _ (by omega)
    have HTP := Lib.hid (TreeOf.push inn up hyX)
    have HCR := Lib.hid hcr
    have HB9 := Lib.hid hB9
    have hcapL : L.length + 1 ≤ cap8 := by simpa using hcap8
    simp only [List.length_cons] at c4
    have hwB : Below wc.heap.size wc ((wc.alloc (.cells #[.pointer (some ⟨g, L.length * 4, none⟩)] 124)).drew) := belowN ((Below.refl _ wc).alloc (Nat.le_refl _) _) 1
    have HC4 := Lib.hid (hcr.below hwB)
    have HT4 := Lib.hid (HTP.out.below hwB hcr.lt)
    have HWB := Lib.hid hwB
    have HNP : Hid (((wc.alloc (.cells #[.pointer (some ⟨g, L.length * 4, none⟩)] 124)).drew).cell? ⟨wc.heap.size, 0, none⟩ = some (.pointer (some ⟨g, L.length * 4, none⟩))) := (Box.new wc [.pointer (some ⟨g, L.length * 4, none⟩)] 124 _ rfl).cell 0 _ rfl
    have HPL : Hid ((qs.reverse ++ [(b, o)]).length ≤ 1000000) := by show _ ≤ _; simp; omega
    have HPQ : Hid ((qs.reverse ++ [(b, o)]).length = fs.length + 1) := by show _ = _; simp [hqs]
    have HBS : Hid (B + 1 ≤ ((wc.alloc (.cells #[.pointer (some ⟨g, L.length * 4, none⟩)] 124)).drew).heap.size) := by show _ ≤ _; simp; omega
    have HSZ : Hid (((wc.alloc (.cells #[.pointer (some ⟨g, L.length * 4, none⟩)] 124)).drew).heap.size = wc.heap.size + 1) := by show _ = _; simp
    have HB4 : Hid (∀ w9 : World, ((wc.alloc (.cells #[.pointer (some ⟨g, L.length * 4, none⟩)] 124)).drew).grownBy w9 (Value.slice ao (f :: fs).length cap).ownBlock → w9.cell? ⟨B, 4, none⟩ = some (.slice ao (fs.length + 1) cap) ∧ w9.frozen? ⟨B, 4, none⟩ = false ∧ B < w9.heap.size) := by
      intro w9 hg
      have hbk : w9.heap[B]? = ((wc.alloc (.cells #[.pointer (some ⟨g, L.length * 4, none⟩)] 124)).drew).heap[B]? := hg.block B HC4.out.lt (fun e => by have := (HC4.out.opn.rowOf e.symm).1; omega)
      exact ⟨(World.cell?_of_block (by exact hbk)).trans HC4.out.c4, (World.frozen?_of_block (by exact hbk)).trans (HC4.out.f 4), Nat.lt_of_lt_of_le HC4.out.lt hg.size⟩
    have HBG : Hid (∀ w9 : World, ((wc.alloc (.cells #[.pointer (some ⟨g, L.length * 4, none⟩)] 124)).drew).grownBy w9 (Value.slice ao (f :: fs).length cap).ownBlock → Below B w w9) := by
      intro w9 hg
      have h1 : Below B w ((wc.alloc (.cells #[.pointer (some ⟨g, L.length * 4, none⟩)] 124)).drew) := (HB3.out.trans HB9.out).trans (HWB.out.mono (Nat.le_of_lt hlt9))
      exact ⟨hg.os.trans h1.os, hg.tape.trans h1.tape, hg.output.trans h1.output, Nat.le_trans h1.size hg.size, fun k hk => (hg.block k (Nat.lt_trans hk HC4.out.lt) (fun e => by have := (HC4.out.opn.rowOf e.symm).1; omega)).trans (h1.block k hk)⟩
    have HVG : Hid (∀ w9 : World, ((wc.alloc (.cells #[.pointer (some ⟨g, L.length * 4, none⟩)] 124)).drew).grownBy w9 (Value.slice ao (f :: fs).length cap).ownBlock → KeptX X w w9) := fun w9 hg => HV9.out.trans ((KeptX.below HWB.out).trans (KeptX.grown hg HXO.out))
    clear inn up hcr hyX hB9 hrow hcap8 hwB HKB HOW HK HNW hown4 hbl4 hb4 hbs hsz4 hbl5 HQ2 HF2 n0 n1 n2 n3 nl
    go_wp2
    go_region_law (first | (refine step_append_open rfl (.tmp 68) (.tmp 80) rfl (.slice ao (f :: fs).length cap) (qs.reverse ++ [(b, o)]) (by simp [Act.eval]) HC4.out.opn wc.heap.size (g, L.length * 4) (by simp [Act.eval]) HNP.out HPL.out HBS.out (wc.heap.size + 1) HSZ.out ?_; intro g9 cap9 w9 hown9 hgrow9 hat9; obtain ⟨z1, z2, z3⟩ := HB4.out w9 hgrow9; rw [HPQ.out] at hown9; have ho9 := Lib.hid hown9; have hg9 := Lib.hid hgrow9; have ha9 := Lib.hid hat9; rw [HPQ.out]; clear hown9 hgrow9 hat9))
    all_goals
      have hp := Core.point node_ptr HC4.out HT4.out ho9.out hg9.out (ha9.out.imp (fun e => e.symm) (fun e k hk => by cases hk; rw [HSZ.out]; exact e))
      have hbw := HBG.out w9 hg9.out
      have hvw := HVG.out w9 hg9.out
      have hvw2 := hvw.trans (keptX_set w9 B 4 (.slice (some ⟨g9, 0, none⟩) (fs.length + 1 + 1) cap9) HXB.out)
      have hbw2 := below_set hbw B 4 (.slice (some ⟨g9, 0, none⟩) (fs.length + 1 + 1) cap9) (Nat.le_refl _)
      clear z1 z2 z3 ho9 hg9 ha9 hbw hvw
      generalize w9.setCell ⟨B, 4, none⟩ (.slice (some ⟨g9, 0, none⟩) (fs.length + 1 + 1) cap9) = W10 at *
      have c7 := hp.c7
      have f7 := hp.f 7
      have lt10 := hp.lt
      have HP10 := Lib.hid hp
      have HBW := Lib.hid hbw2
      have HVW := Lib.hid hvw2
      clear hp hbw2 hvw2
      go_wp2
      go_ret
      refine ⟨⟨rfl, ⟨_, _, _, HP10.out.set7 (.bool false), by simp, fun f' hf' => ?_, ?_, ?_⟩, below_set HBW.out B 7 _ (Nat.le_refl _)⟩, HVW.out.trans (keptX_set _ B 7 _ HXB.out)⟩
      · rcases List.mem_cons.1 hf' with rfl | hf'
        · simp
        · have := H.out.kd f' hf'; omega
      · show c + 1 ≤ n + 1
        omega
      · simp only [List.length_cons]; omega

end Go.Proofs.Ytpchljiiappmnaa
