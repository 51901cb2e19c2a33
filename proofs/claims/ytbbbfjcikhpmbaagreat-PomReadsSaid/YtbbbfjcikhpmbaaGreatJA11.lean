/- The walk of All where the text is not too great; its conditions stand in the theorem. -/
import Derived.Test.YtbbbfjcikhpmbaaGreatJA10
import Derived.KernelRfl
import Derived.Test.YtbbbfjcikhpmbaaGreatJA08
import Derived.StillTailTactics

namespace Go.Proofs.YtbbbfjcikhpmbaaGreat
open Go Go.RowKit

/-- What the loop over the text has done so far. -/
structure Alls (w wr : World) (s : S) (l : Bs) (ov : Value) (L : List TkM) (acc : List (Tk × Bs)) (f : Nat) : Prop where
 toks : Toks wr (w.heap.size + 4) s l ov L
 vars : Vars wr w.heap.size s (.slice none 0 0) (.int .i64 0) (.int .i64 0) (.int .i64 0) (.int .i64 0)
 below : Below w.heap.size w wr
 spec : allR s.data.toList = allGo f (decide (pos s l = 0)) acc l
 fuel : l.length ≤ f
 same : L.map (fun x => (x.t, x.off, x.line, x.col)) = acc.map (fun p => (p.1, (pos s p.2 : Int), (0 : Int), (0 : Int)))
 falls : Falls s.data.toList acc l
 num : L.length + l.length ≤ s.size
theorem Alls.drewN {w wr : World} {s : S} {l : Bs} {ov : Value} {L : List TkM} {acc : List (Tk × Bs)} {f : Nat} (h : Alls w wr s l ov L acc f) (n : Nat) : Alls w (wr.drewN n) s l ov L acc f :=
 ⟨h.toks.kept (grownN _ _ _) (h.toks.rd.drewN n), h.vars.below (belowN (Below.refl _ _) n), belowN h.below n, h.spec, h.fuel, h.same, h.falls, h.num⟩
theorem Alls.next {w wr w2 : World} {s : S} {l r : Bs} {ov ov2 av : Value} {L : List TkM} {acc : List (Tk × Bs)} {f : Nat} {t : Tk} (h : Alls w wr s l ov L acc f) (hl : l ≠ []) (ht : tokenR (decide (pos s l = 0)) l = .ok t r)
    (hT : Toks w2 (w.heap.size + 4) s r ov2 (L ++ [⟨t, av, pos s l, 0, 0⟩])) (hb : Below (w.heap.size + 4) wr w2) : Alls w w2 s r ov2 (L ++ [⟨t, av, pos s l, 0, 0⟩]) (acc ++ [(t, l)]) (f - 1) := by
 have hlt := tokenR_less ht hl
 have hsuf := suf_of_ok (tokenR_suf _ l) ht
 have hpos : 0 < l.length := List.length_pos_iff.2 hl
 obtain ⟨f', rfl⟩ : ∃ f', f = f' + 1 := ⟨f - 1, by have := h.fuel; omega⟩
 refine ⟨hT, h.vars.belowB hb (by omega), h.below.trans (hb.mono (by omega)), ?_, ?_, ?_, h.falls.snoc h.toks.rd.suf hsuf hlt t, ?_⟩
 · rw [h.spec]
   cases l with
   | nil => exact absurd rfl hl
   | cons c l =>
    simp only [allGo]
    rw [ht]
    simp only [Nat.add_sub_cancel]
    have : decide (pos s r = 0) = false := by
     have h1 := pos_add h.toks.rd.suf
     have h2 := pos_add hT.rd.suf
     simp; omega
    rw [this]
 · have := h.fuel; omega
 · rw [List.map_append, List.map_append, h.same]; rfl
 · have := h.num; rw [List.length_append, List.length_singleton]; omega
theorem Alls.bad {w wr : World} {s : S} {l r : Bs} {ov : Value} {L : List TkM} {acc : List (Tk × Bs)} {f : Nat} {x : Int} (h : Alls w wr s l ov L acc f) (hl : l ≠ []) (ht : tokenR (decide (pos s l = 0)) l = .bad x r) : allR s.data.toList = .bad x r := by
 have hpos : 0 < l.length := List.length_pos_iff.2 hl
 obtain ⟨f', rfl⟩ : ∃ f', f = f' + 1 := ⟨f - 1, by have := h.fuel; omega⟩
 rw [h.spec]
 cases l with
 | nil => exact absurd rfl hl
 | cons c l => simp only [allGo]; rw [ht]
theorem Alls.done {w wr : World} {s : S} {ov : Value} {L : List TkM} {acc : List (Tk × Bs)} {f : Nat} (h : Alls w wr s [] ov L acc f) : allR s.data.toList = .ok acc [] := by
 rw [h.spec]; cases f <;> rfl
theorem Alls.start {w W : World} {s : S} (hx : Box W (w.heap.size + 4) [.string s, .int .i64 0, .slice none 0 0]) (hV : Vars W w.heap.size s (.slice none 0 0) (.int .i64 0) (.int .i64 0) (.int .i64 0) (.int .i64 0)) (hb : Below w.heap.size w W) :
    Alls w W s s.data.toList (.slice none 0 0) [] [] s.size := by
 have hp : pos s s.data.toList = 0 := by unfold pos; rw [size_data]; omega
 refine ⟨⟨⟨by rw [hp]; exact hx, List.suffix_refl _⟩, Owns.nil, by simp⟩, hV, hb, ?_, by rw [size_data]; exact Nat.le_refl _, rfl, Falls.nil _ _, by simp⟩
 rw [hp]; unfold allR; rw [size_data]; rfl
/-- The places of the tokens lie in the text and rise. -/
theorem Alls.rises {w wr : World} {s : S} {ov : Value} {L : List TkM} {acc : List (Tk × Bs)} {f : Nat} (h : Alls w wr s [] ov L acc f) :
    (∀ j (hj : j < L.length), ∃ o : Nat, L[j].off = o ∧ o < s.size) ∧ ∀ i j (hi : i < j) (hj : j < L.length), L[i].off ≤ L[j].off := by
 have hlen : L.length = acc.length := by have := congrArg List.length h.same; simpa using this
 have hoff : ∀ j (hj : j < L.length), L[j].off = (pos s (acc[j]'(by omega)).2 : Int) := fun j hj => by
  have := congrArg (·[j]?) h.same
  simp only [List.getElem?_map, List.getElem?_eq_getElem hj, List.getElem?_eq_getElem (show j < acc.length by omega), Option.map_some, Option.some.injEq, Prod.mk.injEq] at this
  exact this.2.1
 refine ⟨fun j hj => ⟨_, hoff j hj, ?_⟩, fun i j hi hj => ?_⟩
 · obtain ⟨-, h2, h3⟩ := h.falls.2 (acc[j]'(by omega)) (List.getElem_mem _)
   have := pos_add h3
   simp at h2; omega
 · rw [hoff i (by omega), hoff j hj]
   have h1 := List.pairwise_iff_getElem.1 h.falls.1 i j (by omega) (by omega) hi
   obtain ⟨-, -, h3⟩ := h.falls.2 (acc[i]'(by omega)) (List.getElem_mem _)
   obtain ⟨-, -, h4⟩ := h.falls.2 (acc[j]'(by omega)) (List.getElem_mem _)
   have := pos_add h3
   have := pos_add h4
   have := h1.2
   omega
theorem Alls.places {w wr : World} {s : S} {l : Bs} {ov : Value} {L : List TkM} {acc : List (Tk × Bs)} {f : Nat} (h : Alls w wr s l ov L acc f) :
    (L.map (fillT s)).map (fun x => (x.t, x.off, x.line, x.col)) = acc.map (fun p => (p.1, (pos s p.2 : Int), ((lineCol (s.data.toList.take (pos s p.2))).1 : Int), ((lineCol (s.data.toList.take (pos s p.2))).2 : Int))) := by
 have h1 := congrArg (List.map (fun q : Tk × Int × Int × Int => (q.1, q.2.1, ((lineCol (s.data.toList.take q.2.1.toNat)).1 : Int), ((lineCol (s.data.toList.take q.2.1.toNat)).2 : Int)))) h.same
 rw [List.map_map, List.map_map] at h1
 rw [List.map_map]
 refine Eq.trans ?_ (h1.trans ?_)
 · rfl
 · rfl
theorem own_stored {α : Type} {base E n : Nat} {C : α → List Value} {W : World} {B : Nat} {v : Value} {l : List α} (h : Owns base E n C W v l) (hB : B + 3 < base) (u1 u2 q0 q1 q2 : Value) : Owns base E n C (((((W.setCell ⟨B + 1, 0, none⟩ u1).setCell ⟨B + 2, 0, none⟩ u2).setCell ⟨B + 3, 0, none⟩ q0).setCell ⟨B + 3, 1, none⟩ q1).setCell ⟨B + 3, 2, none⟩ q2) v l :=
 ((((h.keptR (setCell_grown _ _ _ _) (by omega)).keptR (setCell_grown _ _ _ _) (by omega)).keptR (setCell_grown _ _ _ _) (by omega)).keptR (setCell_grown _ _ _ _) (by omega)).keptR (setCell_grown _ _ _ _) (by omega)
set_option maxRecDepth 100000 in
set_option maxHeartbeats 8000000 in
theorem all_small (s : S) (m : Int) (w : World) (hs : s.size ≤ 65536) (hm : w.cell? ⟨0, 0, none⟩ = some (.int .i64 m)) :
    Calls Tryz.prog 80 #[.string s] w (AllOut s w (allR s.data.toList)) := by
 have hsi : ¬ (65536 : Int) < (s.size : Int) := by omega
 have hw0 : 0 < w.heap.size := World.block_lt_of_cell? w _ hm
 have HM := Lib.hid hm
 clear hm
 have hmf : ∀ (fn : Fn) (first cap : Array Value) (w : World), (Instr.makeFunc fn first cap).run Tryz.prog w = .ok (.func fn first cap) w := fun _ _ _ _ => rfl
 go_enter_defers Tryz.func80, Tryz.ntmps80
 go_wp2
 refine wp_world ?_
 intro W hW
 have hV : Vars W w.heap.size s (.slice none 0 0) (.int .i64 0) (.int .i64 0) (.int .i64 0) (.int .i64 0) := by rw [hW]; exact (Vars.made w s).below ((Below.refl _ _).alloc (Nat.le_refl _) _)
 have hB : Below w.heap.size w W := by rw [hW]; exact (((((Below.refl _ _).alloc (Nat.le_refl _) _).alloc (by simp) _).alloc (by simp; omega) _).alloc (by simp; omega) _).alloc (by simp; omega) _
 have hx : Box W (w.heap.size + 4) [.string s, .int .i64 0, .slice none 0 0] := by rw [hW]; exact Box.new _ _ _ _ (by simp)
 have hA := Lib.hid (Alls.start hx hV hB)
 clear hW hV hB hx hmf
 go_loopw [] (fun wr => ∃ l ov L acc f, Alls w wr s l ov L acc f) (fun wr => s.size - (placeOf wr (w.heap.size + 4)).toNat)
 case atStart => exact ⟨_, _, _, _, _, hA.out⟩
 case round =>
  clear hA
  obtain ⟨l, ov, L, acc, f, hA⟩ := hrel
  have HA := Lib.hid hA
  have hm : wr.cell? ⟨0, 0, none⟩ = some (.int .i64 m) := (hA.below.cell (by simpa using hw0)).trans HM.out
  have hnum := hA.num
  have hlt4 := hA.toks.rd.box.lt
  clear hA
  by_cases hl : l = []
  · subst hl
    have HN : Hid (Calls Tryz.prog 110 #[.pointer (some ⟨w.heap.size + 4, 0, none⟩)] wr (Qt (.bool true) wr)) := ends_any (w.heap.size + 4) s [] ov wr HA.out.toks.rd
    obtain ⟨ao, cap, rfl⟩ := HA.out.toks.own.shape
    have c2 := HA.out.toks.rd.c2
    go_wp2_with fail
    refine HN.out.mono ?_
    rintro e w1 ⟨rfl, n, rfl⟩
    obtain ⟨hoff, hmono⟩ := HA.out.rises
    have HOF := Lib.hid hoff
    have HMO := Lib.hid hmono
    have hP : Places w (wr.drewN n) s ao cap L 0 := ⟨(HA.out.drewN n).toks.rd, (HA.out.drewN n).vars, (HA.out.drewN n).below, by simpa using (HA.out.drewN n).toks.own, by simpa using (HA.out.drewN n).toks.att⟩
    have HP := Lib.hid hP
    have hLm : L.length ≤ 65536 := by omega
    clear hoff hmono hP
    go_wp2
    clear c2
    go_loopw [6, 7, 8, 9, 32] (fun li ah _ _ i wr => ∃ k a : Nat, k ≤ L.length ∧ i = .int .i64 k ∧ a ≤ s.size ∧ ah = .int .i64 a ∧ li = .int .i64 (lineCol (s.data.toList.take a)).1 ∧ Hid (∀ j (hj : j < L.length), k ≤ j → (a : Int) ≤ L[j].off) ∧ Places w wr s ao cap L k) (fun _ _ _ _ i _ => L.length - (intOf i).toNat)
    case atStart => exact ⟨0, 0, Nat.zero_le _, rfl, Nat.zero_le _, rfl, by simp [lineCol], fun j hj _ => by obtain ⟨o, h1, -⟩ := HOF.out j hj; omega, HP.out⟩
    case round =>
     clear HP
     obtain ⟨k, a, hk, rfl, ha, rfl, rfl, HR, hP⟩ := hrel
     have HP := Lib.hid hP
     have hltP := hP.rd.box.lt
     have c2 := hP.rd.c2
     have cT := hP.vars.x0.cell 0 _ rfl
     clear hP
     by_cases hkl : k < L.length
     · have hlenM : ((L.take k).map (fillT s) ++ L.drop k).length = L.length := by simp; omega
       have hown : Owns (w.heap.size + 5) 117 7 tkC wr (.slice ao ((L.take k).map (fillT s) ++ L.drop k).length cap) ((L.take k).map (fillT s) ++ L.drop k) := by rw [hlenM]; exact HP.out.own
       obtain ⟨g, rfl, hg1, hg2, -, hf5, hcells, -⟩ := own_store (j := 5) tkC_len hown (fill_get hkl) (by decide)
       obtain ⟨g2, e2, -, -, -, hf6, -, -⟩ := own_store (j := 6) tkC_len hown (fill_get hkl) (by decide)
       cases e2
       have d4 := hcells 4 _ rfl
       have d5 : wr.cell? ⟨g, k * 7 + 4 + 1, none⟩ = some (.int .i64 L[k].line) := hcells 5 _ rfl
       have d6 : wr.cell? ⟨g, k * 7 + 4 + 2, none⟩ = some (.int .i64 L[k].col) := hcells 6 _ rfl
       have hf5' : wr.frozen? ⟨g, k * 7 + 4 + 1, none⟩ = false := hf5
       have hf6' : wr.frozen? ⟨g, k * 7 + 4 + 2, none⟩ = false := hf6
       obtain ⟨o, ho, hos⟩ := HOF.out k hkl
       have hao := HR.out k hkl (Nat.le_refl _)
       have hao2 : a ≤ o := by omega
       rw [ho] at d4
       have HOo := Lib.hid ho
       have hHN : Hid (∀ j (hj : j < L.length), k + 1 ≤ j → (o : Int) ≤ L[j].off) := fun j hj hkj => by
        rw [← HOo.out]; exact HMO.out k j (by omega) hj
       have hG := Lib.hid hg1
       clear hown hcells hlenM ho hao hg1 hf5 hf6
       generalize hl5 : L[k].line = l5 at *
       generalize hl6 : L[k].col = l6 at *
       clear hl5 hl6
       go_wp2
       go_loop [6, 7] (fun li ah => ∃ a' : Nat, a' ≤ o ∧ ah = .int .i64 a' ∧ li = .int .i64 (lineCol (s.data.toList.take a')).1) (fun _ ah => o - (intOf ah).toNat)
       case atStart => exact ⟨a, hao2, rfl, rfl⟩
       case round =>
        clear hao2 ha
        obtain ⟨a', ha', rfl, rfl⟩ := hrel
        have hb1 := (lineCol_pos (s.data.toList.take a')).2.2.1
        rw [List.length_take] at hb1
        have hb2 : (lineCol (s.data.toList.take a')).1 ≤ 65537 := by omega
        clear hb1
        by_cases hlt : a' < o
        · have has : a' < s.size := by omega
          have hsn : s.data.toList.take (a' + 1) = s.data.toList.take a' ++ [s[a']] := by
           rw [List.take_succ_eq_append_getElem (by rw [size_data]; exact has)]; rfl
          by_cases h10 : s[a'] = 10
          · have e1 : (((s[a'].toNat : Nat) : Int) == 10) = true := by rw [h10]; decide
            have HL : Hid ((lineCol (s.data.toList.take (a' + 1))).1 = (lineCol (s.data.toList.take a')).1 + 1) := by show _ = _; rw [hsn, lineCol_snoc, if_pos h10]
            clear hsn h10
            generalize (lineCol (s.data.toList.take a')).1 = li at *
            go_wp2
            go_round
            case rel => exact ⟨a' + 1, hlt, by go_num, by rw [HL.out]; go_num⟩
            case measure => simp [intOf]; omega
          · have e1 : (((s[a'].toNat : Nat) : Int) == 10) = false := by
             rw [beq_eq_false_iff_ne]; intro e; exact h10 (UInt8.toNat_inj.1 (by simpa using (by omega : s[a'].toNat = 10)))
            have HL : Hid ((lineCol (s.data.toList.take (a' + 1))).1 = (lineCol (s.data.toList.take a')).1) := by show _ = _; rw [hsn, lineCol_snoc, if_neg h10]
            clear hsn h10
            generalize (lineCol (s.data.toList.take a')).1 = li at *
            go_wp2
            go_round
            case rel => exact ⟨a' + 1, hlt, by go_num, by rw [HL.out]⟩
            case measure => simp [intOf]; omega
        · obtain rfl : a' = o := by omega
          have hex : (s.extract 0 a').data.toList = s.data.toList.take a' := by rw [Lib.extract_data]; simp
          have hez : (s.extract 0 a').size = a' := by rw [← size_data, hex, List.length_take, size_data]; omega
          have HLI := Lib.hid (fun w => lastIndexByte_any (s.extract 0 a') w (by rw [hez]; omega))
          rw [hex, hez] at HLI
          have hb3 := (lineCol_pos (s.data.toList.take a')).2.2.2
          rw [List.length_take] at hb3
          have hb4 : (lineCol (s.data.toList.take a')).2 ≤ 65537 := by omega
          have HST := Lib.hid (HP.out.step hkl hG.out)
          have hfl : (fillT s L[k]).line = ((lineCol (s.data.toList.take a')).1 : Int) := by unfold fillT; rw [HOo.out, Int.toNat_natCast]
          have hfc : (fillT s L[k]).col = ((lineCol (s.data.toList.take a')).2 : Int) := by unfold fillT; rw [HOo.out, Int.toNat_natCast]
          rw [hfl, hfc] at HST
          clear hex hez hb3 hfl hfc
          have hi1 : a' ≤ s.size := by omega
          generalize hli : (lineCol (s.data.toList.take a')).1 = li at *
          generalize hco : (lineCol (s.data.toList.take a')).2 = co at *
          have HLL := Lib.hid hli
          clear hli hco
          go_wp2_with fail
          refine (HLI.out _).mono ?_
          rintro e w' ⟨rfl, rfl⟩
          go_wp2
          go_roundw
          case rel => exact ⟨k + 1, a', hkl, by go_num, hi1, rfl, by rw [HLL.out], hHN, by first | exact HST.out | (rw [show (a' : Int) - ((a' : Int) - (co : Int)) = (co : Int) by omega]; exact HST.out)⟩
          case measure => simp [intOf]; omega
     · obtain rfl : k = L.length := by omega
       have a1 := HP.out.vars.x1.cell 0 _ rfl
       have a2 := HP.out.vars.x2.cell 0 _ rfl
       obtain ⟨a3, a4, a5⟩ := bxc3 HP.out.vars.x3
       have f1 := HP.out.vars.x1.free 0
       have f2 := HP.out.vars.x2.free 0
       have f3 := HP.out.vars.x3.free 0
       have f4 := HP.out.vars.x3.free 1
       have f5 := HP.out.vars.x3.free 2
       have l3 := HP.out.vars.x3.lt
       go_wp2
       have hV3 := HP.out.vars.store (.slice ao L.length cap) (.int .i64 0) (.int .i64 0) (.int .i64 0) (.int .i64 0)
       have hB3 := below_store HP.out.below (.slice ao L.length cap) (.int .i64 0) (.int .i64 0) (.int .i64 0) (.int .i64 0)
       have hO3 := own_stored (B := w.heap.size) HP.out.own (by omega) (.slice ao L.length cap) (.int .i64 0) (.int .i64 0) (.int .i64 0) (.int .i64 0)
       have hA3 := fun x hx => own_stored (B := w.heap.size) (HP.out.att x hx) (by omega) (.slice ao L.length cap) (.int .i64 0) (.int .i64 0) (.int .i64 0) (.int .i64 0)
       rw [List.take_length, List.drop_length, List.append_nil] at hO3 hA3
       clear a1 a2 a3 a4 a5 f1 f2 f3 f4 f5 l3 c2 cT
       generalize (((((wr.setCell ⟨w.heap.size + 1, 0, none⟩ (.slice ao L.length cap)).setCell ⟨w.heap.size + 2, 0, none⟩ (.int .i64 0)).setCell ⟨w.heap.size + 3, 0, none⟩ (.int .i64 0)).setCell ⟨w.heap.size + 3, 1, none⟩ (.int .i64 0)).setCell ⟨w.heap.size + 3, 2, none⟩ (.int .i64 0)) = W3 at *
       rw [HA.out.done]
       refine leaves_cons (f := 109) (args := #[.pointer (some ⟨w.heap.size, 0, none⟩), .pointer (some ⟨w.heap.size + 1, 0, none⟩), .pointer (some ⟨w.heap.size + 2, 0, none⟩), .pointer (some ⟨w.heap.size + 3, 0, none⟩)]) (by simp) (by simp [go_sem]) ?_
       refine (catch_idle _ _ _ _ W3).mono ?_
       rintro e u' w4 ⟨rfl, rfl, rfl⟩
       have a1 := hV3.x1.cell 0 _ rfl
       have a2 := hV3.x2.cell 0 _ rfl
       obtain ⟨a3, a4, a5⟩ := bxc3 hV3.x3
       refine ⟨.tuple #[.slice ao L.length cap, .int .i64 0, zeroPlace], ?_, _, L.map (fillT s), rfl, ⟨hO3.base_mono (by omega), fun x hx => (hA3 x hx).base_mono (by omega), HA.out.places⟩, hB3⟩
       clear hV3 hB3 hO3 hA3
       simp [results, Tryz.results80, go_sem, a1, a2, a3, a4, a5, zeroPlace]
  · have HN : Hid (Calls Tryz.prog 110 #[.pointer (some ⟨w.heap.size + 4, 0, none⟩)] wr (Qt (.bool false) wr)) := by
     have := ends_any (w.heap.size + 4) s l ov wr HA.out.toks.rd
     rw [show l.isEmpty = false by cases l with | nil => exact absurd rfl hl | cons c r => rfl] at this; exact this
    have hcall := fun n => token_any (w.heap.size + 4) s l ov L m (wr.drewN n) (HA.out.drewN n).toks hs hm (by omega)
    have HL := Lib.hid hl
    clear hl
    cases ht : tokenR (decide (pos s l = 0)) l with
    | bad x r =>
     rw [ht] at hcall
     have HCL := Lib.hid hcall
     have HT := Lib.hid ht
     clear hcall ht
     go_wp2_with fail
     refine HN.out.mono ?_
     rintro e w1 ⟨rfl, n, rfl⟩
     go_wp2_with fail
     refine (HCL.out n).mono ?_
     intro e w2 hO
     obtain ⟨rfl, hb⟩ : e = .panicked [{ v := faultV x (pos s r), recovered := false }] ∧ Below (w.heap.size + 4) _ w2 := hO
     go_wp2
     rw [HA.out.bad HL.out HT.out]
     have hV2 := (HA.out.drewN n).vars.belowB hb (by omega)
     have hB2 := (HA.out.drewN n).below.trans (hb.mono (by omega))
     have hpr : pos s r ≤ s.size := by unfold pos; omega
     clear hb HCL HN
     refine leaves_cons (f := 109) (args := #[.pointer (some ⟨w.heap.size, 0, none⟩), .pointer (some ⟨w.heap.size + 1, 0, none⟩), .pointer (some ⟨w.heap.size + 2, 0, none⟩), .pointer (some ⟨w.heap.size + 3, 0, none⟩)]) (by simp) (by simp [go_sem]) ?_
     refine (catch_panicking w.heap.size s x (pos s r) [] _ _ _ _ _ w2 hpr (by omega) hV2.x0 hV2.x1 hV2.x2 hV2.x3).mono ?_
     rintro e u' w3 ⟨rfl, rfl, hx1, hx2, ⟨q0, q1, q2, hq, hx3⟩, hb3⟩
     have a1 := hx1.cell 0 _ rfl
     have a2 := hx2.cell 0 _ rfl
     obtain ⟨a3, a4, a5⟩ := bxc3 hx3
     have hB3 := hB2.trans hb3
     clear hx1 hx2 hx3 hb3 hB2 hV2
     refine ⟨.tuple #[.slice none 0 0, .int .i64 x, placeV s.data.toList (pos s r)], ?_, rfl, hB3⟩
     rw [hq]
     simp [results, Tryz.results80, go_sem, a1, a2, a3, a4, a5]
    | ok t r =>
     rw [ht] at hcall
     have HCL := Lib.hid hcall
     have HT := Lib.hid ht
     clear hcall ht
     go_wp2_with fail
     refine HN.out.mono ?_
     rintro e w1 ⟨rfl, n, rfl⟩
     go_wp2_with fail
     refine (HCL.out n).mono ?_
     intro e w2 hO
     obtain ⟨rfl, ov2, av, hT2, hb⟩ : e = .returned (.tuple #[]) ∧ ∃ ov2 av, Toks w2 (w.heap.size + 4) s r ov2 (L ++ [(⟨t, av, ((pos s l : Nat) : Int), 0, 0⟩ : TkM)]) ∧ Below (w.heap.size + 4) (wr.drewN n) w2 := hO
     have hnew := (HA.out.drewN n).next HL.out HT.out hT2 hb
     clear hT2 hb HCL HN
     go_wp2
     go_roundw
     case rel => exact ⟨_, _, _, _, _, hnew⟩
     case measure =>
      rw [HA.out.toks.rd.place, hnew.toks.rd.place]
      have := pos_add HA.out.toks.rd.suf
      have := pos_add hnew.toks.rd.suf
      have := tokenR_less HT.out HL.out
      omega

end Go.Proofs.YtbbbfjcikhpmbaaGreat

/- The law's example, walked; its condition stands in the theorem. -/
namespace Go.Proofs.YtbbbfjcikhpmbaaGreat
open Go Go.RowKit

theorem TokSl.len {base : Nat} {w : World} {s : S} {ov : Value} {L : List TkM} {acc : List (Tk × Bs)} (h : TokSl base w s ov L acc) : L.length = acc.length := by
 have := congrArg List.length h.is; simpa using this
/-- The i-th token's cells. -/
theorem TokSl.at {base : Nat} {w : World} {s : S} {ov : Value} {L : List TkM} {acc : List (Tk × Bs)} (h : TokSl base w s ov L acc) {i : Nat} {t : Tk} {r : Bs} (hi : acc[i]? = some (t, r)) :
    ∃ g o cap av, ov = .slice (some ⟨g, o, none⟩) acc.length cap ∧ g < w.heap.size ∧ w.cell? ⟨g, o + i * 7, none⟩ = some (.int .i64 t.kind) ∧ w.cell? ⟨g, o + i * 7 + 1, none⟩ = some (.string (bs t.name)) ∧ w.cell? ⟨g, o + i * 7 + 2, none⟩ = some av ∧ w.cell? ⟨g, o + i * 7 + 3, none⟩ = some (.string (bs t.text)) ∧
     w.cell? ⟨g, o + i * 7 + 4, none⟩ = some (.int .i64 (pos s r : Nat)) ∧ w.cell? ⟨g, o + i * 7 + 5, none⟩ = some (.int .i64 (lineCol (s.data.toList.take (pos s r))).1) ∧ w.cell? ⟨g, o + i * 7 + 6, none⟩ = some (.int .i64 (lineCol (s.data.toList.take (pos s r))).2) ∧ Owns base 100 2 atC w av t.attrs := by
 have hl := h.len
 have hlt : i < L.length := by rw [hl]; exact (List.getElem?_eq_some_iff.1 hi).1
 have his := congrArg (·[i]?) h.is
 simp only [List.getElem?_map, List.getElem?_eq_getElem hlt, hi, Option.map_some, Option.some.injEq, Prod.mk.injEq] at his
 obtain ⟨h1, h2, h3, h4⟩ := his
 obtain ⟨ao, cap, rfl⟩ := h.own.shape
 obtain ⟨g, o, rfl, hg, hc⟩ := (h.own.slice tkC_len).at hlt
 have ha := h.att L[i] (List.getElem_mem hlt)
 rw [h1] at ha
 refine ⟨g, o, cap, L[i].av, by rw [hl], hg, ?_, ?_, hc 2 _ rfl, ?_, ?_, ?_, ?_, ha⟩
 · rw [← h1]; simpa using hc 0 _ rfl
 · rw [← h1]; exact hc 1 _ rfl
 · rw [← h1]; exact hc 3 _ rfl
 · rw [← h2]; exact hc 4 _ rfl
 · rw [← h3]; exact hc 5 _ rfl
 · rw [← h4]; exact hc 6 _ rfl
theorem all_ok (s : S) (m : Int) (w : World) {acc : List (Tk × Bs)} {r : Bs} (hs : s.size ≤ 65536) (hm : w.cell? ⟨0, 0, none⟩ = some (.int .i64 m)) (h : allR s.data.toList = .ok acc r) :
    Calls Tryz.prog 80 #[.string s] w (AllOut s w (.ok acc r)) := by rw [← h]; exact all_small s m w hs hm
theorem all_bad (s : S) (m : Int) (w : World) {x : Int} {r : Bs} (hs : s.size ≤ 65536) (hm : w.cell? ⟨0, 0, none⟩ = some (.int .i64 m)) (h : allR s.data.toList = .bad x r) :
    Calls Tryz.prog 80 #[.string s] w (AllOut s w (.bad x r)) := by rw [← h]; exact all_small s m w hs hm
theorem ex2 : allR [60, 97, 32, 98, 61, 49, 62] = .bad 10 [49, 62] := by kernel_rfl

end Go.Proofs.YtbbbfjcikhpmbaaGreat

/- What a text's tokens are, and what Build returns; no walk. -/

namespace Go.Proofs.YtbbbfjcikhpmbaaGreat
open Go Go.RowKit

variable {lo : Nat}
theorem stepB_bad {st : BSt} {t : Tk} {x : Int} (h : stepB st t = .bad x) : x ≠ 0 := by
 have hb : ∀ {y : Int}, beginB st t = .bad y → y ≠ 0 := fun hy => by rcases beginB_bad hy with rfl | rfl <;> decide
 unfold stepB at h
 split at h
 · unfold lettersB at h
   split at h
   · split at h
     · cases h
     · cases h; decide
   · split at h
     · cases h
     · split at h
       · cases h
       · split at h
         · cases h; decide
         · cases h
 · split at h
   · exact hb h
   · split at h
     · cases hB : beginB st t with
       | bad y => rw [hB] at h; cases h; exact hb hB
       | ok st' =>
        rw [hB, beginB_ok hB] at h
        cases h
     · split at h
       · unfold endB at h
         split at h
         · cases h; decide
         · split at h
           · cases h
           · cases h; decide
       · cases h
theorem tokenR_kinds {first : Bool} {l : Bs} {t : Tk} {r : Bs} (h : tokenR first l = .ok t r) : t.kind = 1 ∨ t.kind = 2 ∨ t.kind = 3 ∨ t.kind = 4 ∨ t.kind = 5 ∨ t.kind = 6 := by
 have hm : ∀ {α : Type} {x : Res α} {f : α → Tk} {k : Int} {t : Tk} {r : Bs}, (∀ a, (f a).kind = k) → x.map f = .ok t r → t.kind = k := by
  intro α x f k t r hf hx
  cases x with
  | ok a r' => simp only [Res.map, Res.ok.injEq] at hx; rw [← hx.1]; exact hf a
  | bad e r' => simp [Res.map] at hx
 unfold tokenR at h
 split at h
 · exact .inr (.inr (.inr (.inr (.inl (hm (fun _ => rfl) h)))))
 · split at h
   · exact .inr (.inr (.inr (.inl (hm (fun _ => rfl) h))))
   · split at h
     · exact .inr (.inr (.inr (.inr (.inr (hm (fun _ => rfl) h)))))
     · split at h
       · exact .inr (.inr (.inl (closeR_kind h)))
       · rcases openR_kind h with e | e
         · exact .inl e
         · exact .inr (.inl e)
       · exact .inr (.inr (.inr (.inl (hm (fun _ => rfl) h))))
theorem tksW_len2 (l : List Tk) : 20 * l.length ≤ tksW l := by
 induction l with
 | nil => simp [tksW]
 | cons t l ih =>
  simp only [tksW, List.map_cons, List.sum_cons, List.length_cons] at ih ⊢
  unfold tkW at *
  omega
theorem toks_small {T : Bs} {acc : List (Tk × Bs)} {r : Bs} (h : allR T = .ok acc r) (hT : T.length ≤ 65536) : acc.length ≤ 100000 ∧ (∀ k (hk : k < acc.length), acc[k].1.text.length ≤ 2000000) ∧ ∀ k (hk : k < acc.length), acc[k].1.kind = 1 ∨ acc[k].1.kind = 2 ∨ acc[k].1.kind = 3 ∨ acc[k].1.kind = 4 ∨ acc[k].1.kind = 5 ∨ acc[k].1.kind = 6 := by
 have h1 := (allR_eat h).2
 have h2 := tksW_len2 (acc.map (·.1))
 rw [List.length_map] at h2
 refine ⟨by omega, fun k hk => ?_, fun k hk => ?_⟩
 · have h3 := tksW_get (l := acc.map (·.1)) (k := k) (by simpa using hk)
   rw [List.getElem_map] at h3
   unfold tkW at h3
   omega
 · obtain ⟨-, first, r', h4⟩ := (allR_facts h).2.2.1 acc[k] (List.getElem_mem hk)
   exact tokenR_kinds h4
def nodeV (t : Tr) (av kv : Value) : Value := .agg #[.string (bs t.name), av, kv, .string (bs t.text)]
def noNode : Value := .agg #[.string ⟨#[]⟩, .slice none 0 0, .slice none 0 0, .string ⟨#[]⟩]
/-- What Build returns. -/
def BuildOut (s : S) (w : World) : Res Tr → Ending → World → Prop
 | .ok t _ => fun e w' => ∃ av kv, e = .returned (.tuple #[nodeV t av kv, .int .i64 0, zeroPlace]) ∧ NodeOf w' t av kv ∧ Below w.heap.size w w'
 | .bad x r => fun e w' => e = .returned (.tuple #[noNode, .int .i64 x, placeV s.data.toList (pos s r)]) ∧ Below w.heap.size w w'
/-- A text's tokens in memory, in blocks ahead of B. -/
def TokAt (lo B : Nat) (w : World) (s : S) (ov : Value) (acc : List (Tk × Bs)) : Prop :=
 (∃ ao cap, ov = .slice ao acc.length cap) ∧ ∀ i t r, acc[i]? = some (t, r) → ∃ g o cap av, ov = .slice (some ⟨g, o, none⟩) acc.length cap ∧ g < B ∧ w.cell? ⟨g, o + i * 7, none⟩ = some (.int .i64 t.kind) ∧ w.cell? ⟨g, o + i * 7 + 1, none⟩ = some (.string (bs t.name)) ∧ w.cell? ⟨g, o + i * 7 + 2, none⟩ = some av ∧ w.cell? ⟨g, o + i * 7 + 3, none⟩ = some (.string (bs t.text)) ∧
  w.cell? ⟨g, o + i * 7 + 4, none⟩ = some (.int .i64 (pos s r : Nat)) ∧ w.cell? ⟨g, o + i * 7 + 5, none⟩ = some (.int .i64 (lineCol (s.data.toList.take (pos s r))).1) ∧ w.cell? ⟨g, o + i * 7 + 6, none⟩ = some (.int .i64 (lineCol (s.data.toList.take (pos s r))).2) ∧ AttB lo B w av t.attrs
theorem TokAt.of {base B : Nat} {w : World} {s : S} {ov : Value} {L : List TkM} {acc : List (Tk × Bs)} (h : TokSl base w s ov L acc) (hl : lo ≤ base) (hB : w.heap.size ≤ B) : TokAt lo B w s ov acc := by
 refine ⟨?_, fun i t r hi => ?_⟩
 · obtain ⟨ao, cap, e⟩ := h.own.shape
   exact ⟨ao, cap, by rw [e, h.len]⟩
 · obtain ⟨g, o, cap, av, e, hg, c0, c1, c2, c3, c4, c5, c6, ha⟩ := h.at hi
   exact ⟨g, o, cap, av, e, by omega, c0, c1, c2, c3, c4, c5, c6, ha.toX atC_len (fun k hk hx => by have := ha.lt k hk; omega)⟩
theorem TokAt.mono {B B' : Nat} {w : World} {s : S} {ov : Value} {acc : List (Tk × Bs)} (h : TokAt lo B w s ov acc) (hB : B ≤ B') : TokAt lo B' w s ov acc := by
 refine ⟨h.1, fun i t r hi => ?_⟩
 obtain ⟨g, o, cap, av, e, hg, c0, c1, c2, c3, c4, c5, c6, ha⟩ := h.2 i t r hi
 exact ⟨g, o, cap, av, e, by omega, c0, c1, c2, c3, c4, c5, c6, SliceX.keep ha (KeptX.refl _ _) (fun k _ hk => hk.imp (fun hk => Nat.le_trans hB hk) id)⟩
theorem TokAt.below {B : Nat} {w w' : World} {s : S} {ov : Value} {acc : List (Tk × Bs)} (h : TokAt lo B w s ov acc) (hb : Below B w w') : TokAt lo B w' s ov acc := by
 refine ⟨h.1, fun i t r hi => ?_⟩
 obtain ⟨g, o, cap, av, e, hg, c0, c1, c2, c3, c4, c5, c6, ha⟩ := h.2 i t r hi
 have hc : ∀ j, w'.cell? ⟨g, j, none⟩ = w.cell? ⟨g, j, none⟩ := fun j => hb.cell (p := ⟨g, j, none⟩) (by exact hg)
 exact ⟨g, o, cap, av, e, hg, (hc _).trans c0, (hc _).trans c1, (hc _).trans c2, (hc _).trans c3, (hc _).trans c4, (hc _).trans c5, (hc _).trans c6, ha.below hb⟩

end Go.Proofs.YtbbbfjcikhpmbaaGreat

/- The walk of the document's Same on trees; its conditions stand in the theorem. -/
namespace Go.Proofs.YtbbbfjcikhpmbaaGreat
open Go Go.RowKit

theorem kid_less {t : Tr} {k : Nat} (h : k < t.kids.length) : SizeOf.sizeOf t.kids[k] < SizeOf.sizeOf t := by
 obtain ⟨n, l, ks, x⟩ := t
 have := List.sizeOf_lt_of_mem (List.getElem_mem (l := ks) h)
 simp only [Tr.mk.sizeOf_spec, Tr.kids] at this ⊢
 omega
/-- A kid's cells. -/
theorem NodeX.kid {X : Nat → Prop} {w : World} {t : Tr} {av kv : Value} (h : NodeX X w t av kv) : ∃ ao cap, kv = .slice ao t.kids.length cap ∧ t.kids.length ≤ maxLen ∧ ∀ k (hk : k < t.kids.length), ∃ g o a b, ao = some ⟨g, o, none⟩ ∧ g < w.heap.size ∧ w.cell? ⟨g, o + k * 4, none⟩ = some (.string (bs t.kids[k].name)) ∧ w.cell? ⟨g, o + k * 4 + 1, none⟩ = some a ∧ w.cell? ⟨g, o + k * 4 + 2, none⟩ = some b ∧ w.cell? ⟨g, o + k * 4 + 3, none⟩ = some (.string (bs t.kids[k].text)) ∧ NodeX X w t.kids[k] a b := by
 obtain ⟨L, his, -, ho, hn⟩ := h.parts
 obtain ⟨ao, cap, h1, h2, h3, h4, h5⟩ := ho
 have hl : L.length = t.kids.length := by rw [← his]; simp
 refine ⟨ao, cap, by rw [h1, hl], by omega, fun k hk => ?_⟩
 have hkL : k < L.length := by omega
 obtain ⟨g, o, e1, e2, -, e3⟩ := h5 k L[k] (List.getElem?_eq_getElem hkL)
 have hkid : t.kids[k] = L[k].1 := by
  have : (L.map (·.1))[k]'(by simpa using hkL) = L[k].1 := by simp
  rw [← this]
  congr 1
  exact his.symm
 refine ⟨g, o, L[k].2.1, L[k].2.2, e1, e2, ?_, e3 1 _ rfl, e3 2 _ rfl, ?_, ?_⟩
 · rw [hkid]; simpa using e3 0 _ rfl
 · rw [hkid]; exact e3 3 _ rfl
 · rw [hkid]; exact hn _ (List.getElem_mem hkL)
theorem NodeX.att {X : Nat → Prop} {w : World} {t : Tr} {av kv : Value} (h : NodeX X w t av kv) : SliceOf 2 atC w av t.attrs := by
 obtain ⟨_, -, h1, -⟩ := h.parts
 exact h1.slice

end Go.Proofs.YtbbbfjcikhpmbaaGreat

/- The document's builder: its memory and its small function; the conditions stand in the theorems. -/

namespace Go.Proofs.YtbbbfjcikhpmbaaGreat
open Go Go.RowKit

variable {lo : Nat}
/-- The document's builder. -/
abbrev RB (w : World) (B : Nat) (lv : Value) (i c bad off : Int) : Prop := Box w B [lv, .int .i64 i, .int .i64 c, .int .i64 bad, .int .i64 off]

end Go.Proofs.YtbbbfjcikhpmbaaGreat

/- The law's Light on trees, walked; its conditions stand in the theorems. -/

namespace Go.Proofs.YtbbbfjcikhpmbaaGreat
open Go Go.RowKit

mutual
/-- How many elements and texts a tree has. -/
def Tr.cnt : Tr → Nat
 | .mk _ _ ks _ => 1 + Tr.cntL ks
def Tr.cntL : List Tr → Nat
 | [] => 0
 | t :: l => t.cnt + Tr.cntL l
end
theorem Tr.cnt_eq (t : Tr) : t.cnt = 1 + Tr.cntL t.kids := by cases t; rw [Tr.cnt]; rfl
theorem cntL_append : ∀ (l m : List Tr), Tr.cntL (l ++ m) = Tr.cntL l + Tr.cntL m
 | [], m => by simp [Tr.cntL]
 | t :: l, m => by rw [List.cons_append, Tr.cntL, Tr.cntL, cntL_append l m]; omega
theorem cntL_take (l : List Tr) (k : Nat) (h : k < l.length) : Tr.cntL (l.take (k + 1)) = Tr.cntL (l.take k) + l[k].cnt := by
 rw [List.take_succ_eq_append_getElem h, cntL_append]; simp [Tr.cntL]
/-- A tree of small parts. -/
inductive LightT : Tr → Prop where
 | mk {n : Bs} {ats : List At2} {ks : List Tr} {x : Bs} (hn : n.length ≤ 1000) (hx : x.length ≤ 1000) (hal : ats.length ≤ 20) (ha : ∀ a ∈ ats, a.1.length ≤ 1000 ∧ a.2.length ≤ 1000) (hkl : ks.length ≤ 300) (hk : ∀ k ∈ ks, LightT k) : LightT (.mk n ats ks x)
theorem LightT.of {t : Tr} (hn : t.name.length ≤ 1000) (hx : t.text.length ≤ 1000) (hal : t.attrs.length ≤ 20) (ha : ∀ a ∈ t.attrs, a.1.length ≤ 1000 ∧ a.2.length ≤ 1000) (hkl : t.kids.length ≤ 300) (hk : ∀ k ∈ t.kids, LightT k) : LightT t := by
 cases t; exact .mk hn hx hal ha hkl hk
theorem LightT.text {t : Tr} (h : LightT t) : t.text.length ≤ 1000 := by cases h; assumption
/-- What light returns and leaves. -/
def LightOut (p l : Nat) (t : Tr) (w : World) (e : Ending) (w' : World) : Prop :=
 ∃ (b : Bool) (l' : Int), e = .returned (.bool b) ∧ Box w' p [.int .i64 l'] ∧ w.grownBy w' (some p) ∧ (b = true → LightT t ∧ 0 ≤ l' ∧ (l : Int) = l' + t.cnt)
theorem NodeX.attX {X : Nat → Prop} {w : World} {t : Tr} {av kv : Value} (h : NodeX X w t av kv) : SliceX 2 atC X w av t.attrs := by
 obtain ⟨_, -, h1, -⟩ := h.parts
 exact h1
theorem NodeX.kid2 {X : Nat → Prop} {w : World} {t : Tr} {av kv : Value} (h : NodeX X w t av kv) : ∃ ao cap, kv = .slice ao t.kids.length cap ∧ t.kids.length ≤ maxLen ∧ ∀ k (hk : k < t.kids.length), ∃ g o a b, ao = some ⟨g, o, none⟩ ∧ g < w.heap.size ∧ ¬ X g ∧ w.cell? ⟨g, o + k * 4, none⟩ = some (.string (bs t.kids[k].name)) ∧ w.cell? ⟨g, o + k * 4 + 1, none⟩ = some a ∧ w.cell? ⟨g, o + k * 4 + 2, none⟩ = some b ∧ w.cell? ⟨g, o + k * 4 + 3, none⟩ = some (.string (bs t.kids[k].text)) ∧ NodeX X w t.kids[k] a b ∧ ∃ a1 a2 a3 a4, a = .slice a1 t.kids[k].attrs.length a2 ∧ b = .slice a3 t.kids[k].kids.length a4 := by
 obtain ⟨L, his, -, ho, hn⟩ := h.parts
 obtain ⟨ao, cap, h1, h2, h3, h4, h5⟩ := ho
 have hl : L.length = t.kids.length := by rw [← his]; simp
 refine ⟨ao, cap, by rw [h1, hl], by omega, fun k hk => ?_⟩
 have hkL : k < L.length := by omega
 obtain ⟨g, o, e1, e2, e2', e3⟩ := h5 k L[k] (List.getElem?_eq_getElem hkL)
 have hkid : t.kids[k] = L[k].1 := by
  have : (L.map (·.1))[k]'(by simpa using hkL) = L[k].1 := by simp
  rw [← this]
  congr 1
  exact his.symm
 have hnk := hn _ (List.getElem_mem hkL)
 refine ⟨g, o, L[k].2.1, L[k].2.2, e1, e2, e2', ?_, e3 1 _ rfl, e3 2 _ rfl, ?_, ?_, ?_⟩
 · rw [hkid]; simpa using e3 0 _ rfl
 · rw [hkid]; exact e3 3 _ rfl
 · rw [hkid]; exact hnk
 · rw [hkid]
   obtain ⟨a1, a2, e1⟩ := hnk.att.shape
   obtain ⟨a3, a4, e2, -⟩ := hnk.kid
   exact ⟨a1, a2, a3, a4, e1, e2⟩
set_option maxRecDepth 100000 in
set_option maxHeartbeats 16000000 in
theorem light_any : ∀ (n : Nat) (t : Tr) (w : World) (av kv : Value) (d l p : Nat), SizeOf.sizeOf t ≤ n → NodeX (fun k => k = p) w t av kv → Box w p [.int .i64 l] → l ≤ 300 → d ≤ 20 →
    Calls Tryz.prog 31 #[nodeV t av kv, .int .i64 d, .pointer (some ⟨p, 0, none⟩)] w (LightOut p l t w)
 | 0, t, w, av, kv, d, l, p, hn, _, _, _, _ => by
  obtain ⟨n, l, k, x⟩ := t
  simp only [Tr.mk.sizeOf_spec] at hn
  omega
 | n + 1, t, w, av, kv, d, l, p, hn, ht, hp, hl, hd => by
  obtain ⟨ao, ac, hav⟩ := ht.att.shape
  obtain ⟨ko, kc, hkv, hka, hks⟩ := ht.kid2
  obtain ⟨ao', ac', hav', -, hac', -, hat⟩ := ht.attX
  rw [hav] at hav'
  simp only [Value.slice.injEq, true_and] at hav'
  obtain ⟨e1, e2⟩ := hav'
  subst e1 e2
  subst hav hkv
  unfold maxLen at hka hac'
  have haL : t.attrs.length ≤ 9223372036854775807 := by have := ht.att; obtain ⟨_, _, e, h1, h2, -⟩ := this; simp only [Value.slice.injEq] at e; unfold maxLen at h2; omega
  have HKS := Lib.hid hks
  have HAT := Lib.hid hat
  have HT := Lib.hid ht
  have HP := Lib.hid hp
  have HI : Hid (∀ k (hk : k < t.kids.length) (W' : World) (v1 v2 : Value) (l' : Nat), NodeX (fun k => k = p) W' t.kids[k] v1 v2 → Box W' p [.int .i64 l'] → l' ≤ 300 → d ≠ 0 → Calls Tryz.prog 31 #[nodeV t.kids[k] v1 v2, .int .i64 (d - 1 : Nat), .pointer (some ⟨p, 0, none⟩)] W' (LightOut p l' t.kids[k] W')) := fun k hk W' v1 v2 l' h1 h2 h3 h4 => light_any n _ W' v1 v2 (d - 1) l' p (by have := kid_less hk; omega) h1 h2 h3 (by omega)
  have p0 := hp.cell 0 _ rfl
  have pf := hp.free 0
  have pl := hp.lt
  have hpw : p ≠ w.heap.size := by omega
  clear hks hat ht hn hp hac'
  unfold nodeV
  go_enter Tryz.func31, Tryz.ntmps31
  go_upto_region 2 with fail
  refine wp_world ?_
  intro W hW
  have hgW : w.grownBy W (some p) := by rw [hW]; exact (setCell_grown _ _ _ _).trans (World.grownBy_alloc _ _ _)
  have x0 : Box W w.heap.size [.string (bs t.name), .slice ao t.attrs.length ac, .slice ko t.kids.length kc, .string (bs t.text)] := by rw [hW]; exact Box.new _ _ _ _ (by simp)
  have hpW : Box W p [.int .i64 ((l : Int) - 1)] := by rw [hW]; exact (HP.out.set 0 _).alloc _
  clear hW
  have HW := Lib.hid hgW
  have HX := Lib.hid x0
  have HPW := Lib.hid hpW
  have p0 := hpW.cell 0 _ rfl
  obtain ⟨a0, a1, a2, a3⟩ := bxc4 x0
  have pl' := hpW.lt
  have al := x0.lt
  have hnz : (bs t.name : S).size = t.name.length := bs_size _
  have htz : (bs t.text : S).size = t.text.length := bs_size _
  by_cases hall : d ≠ 0 ∧ 1 ≤ l ∧ t.kids.length ≤ 300 ∧ t.attrs.length ≤ 20 ∧ (bs t.name : S).size ≤ 1000 ∧ (bs t.text : S).size ≤ 1000
  rotate_left
  · clear hgW x0 hpW pf hnz htz
    have HALL := Lib.hid hall
    clear hall
    go_wp2_with fail
    all_goals first
     | (go_ret; exact ⟨false, _, rfl, HPW.out, HW.out, fun h => absurd h Bool.false_ne_true⟩)
     | (exfalso; exact HALL.out (by refine ⟨?_, ?_, ?_, ?_, ?_, ?_⟩ <;> first | omega | (intro h0; subst h0; simp_all)))
  obtain ⟨hd0, hl1, hk3, ha2, hn1, hx1⟩ := hall
  have hdb : ((d : Int) == 0) = false := beq_eq_false_iff_ne.2 (by omega)
  have hlI : ¬ ((l : Int) - 1 < 0) := by omega
  have hkI : ¬ ((300 : Int) < (t.kids.length : Int)) := by omega
  have haI : ¬ ((20 : Int) < (t.attrs.length : Int)) := by omega
  have hnI : ¬ ((1000 : Int) < ((bs t.name : S).size : Int)) := by omega
  have hxI : ¬ ((1000 : Int) < ((bs t.text : S).size : Int)) := by omega
  clear hgW x0 hpW pf hnz htz
  have HNX : Hid (t.name.length ≤ 1000 ∧ t.text.length ≤ 1000) := by show _ ∧ _; rw [bs_size] at hn1 hx1; exact ⟨hn1, hx1⟩
  have HATX : Hid (∀ i (hi : i < t.attrs.length), ∃ b o, ao = some ⟨b, o, none⟩ ∧ b < w.heap.size ∧ b ≠ p ∧ w.cell? ⟨b, o + i * 2, none⟩ = some (.string (bs t.attrs[i].1)) ∧ w.cell? ⟨b, o + i * 2 + 1, none⟩ = some (.string (bs t.attrs[i].2))) := fun i hi => by
   obtain ⟨b, o, h1, h2, h3, h4⟩ := HAT.out i _ (List.getElem?_eq_getElem hi)
   exact ⟨b, o, h1, h2, h3, h4 0 _ rfl, h4 1 _ rfl⟩
  clear HAT
  go_wp2
  go_loopw [51] (fun i wr => ∃ k : Nat, k ≤ t.attrs.length ∧ i = .int .i64 k ∧ Hid (Below W.heap.size W wr ∧ ∀ q (h1 : q < t.attrs.length), q < k → t.attrs[q].1.length ≤ 1000 ∧ t.attrs[q].2.length ≤ 1000)) (fun i _ => t.attrs.length - (intOf i).toNat)
  case atStart => exact ⟨0, Nat.zero_le _, rfl, Below.refl _ _, fun q _ h => absurd h (Nat.not_lt_zero q)⟩
  case round =>
   obtain ⟨k, hk, rfl, HR⟩ := hrel
   have hbw : w.grownBy wr (some p) := HW.out.trans (grownOf HR.out.1 _)
   have HBW := Lib.hid hbw
   have x0 := HX.out.below HR.out.1 al
   clear hbw a0 a1 a2 a3 p0
   by_cases hlt : k < t.attrs.length
   · obtain ⟨g, o, rfl, hg, hgp, c0, c1⟩ := HATX.out k hlt
     have tr : ∀ {g j u}, g < w.heap.size → g ≠ p → w.cell? ⟨g, j, none⟩ = some u → wr.cell? ⟨g, j, none⟩ = some u := fun hg hp h => (HBW.out.cell_far _ (by exact hg) (by simpa using hp)).trans h
     have c0' := tr hg hgp c0
     have c1' := tr hg hgp c1
     have hgr : g < wr.heap.size := Nat.lt_of_lt_of_le hg HBW.out.size
     have hki : (k : Int) < (t.attrs.length : Int) := by omega
     obtain ⟨N, hN⟩ : ∃ N : S, N = bs t.attrs[k].1 := ⟨_, rfl⟩
     obtain ⟨V, hV⟩ : ∃ V : S, V = bs t.attrs[k].2 := ⟨_, rfl⟩
     rw [← hN] at c0'
     rw [← hV] at c1'
     have hnl : N.size = t.attrs[k].1.length := by rw [hN, bs_size]
     have hvl : V.size = t.attrs[k].2.length := by rw [hV, bs_size]
     have HNL := Lib.hid hnl
     have HVL := Lib.hid hvl
     have hbn : ∀ o, Below W.heap.size W (wr.alloc o) := fun o => HR.out.1.alloc HR.out.1.size o
     have HBN := Lib.hid hbn
     clear tr c0 c1 x0 hN hV hnl hvl hbn
     by_cases hs : N.size ≤ 1000 ∧ V.size ≤ 1000
     · obtain ⟨hs1, hs2⟩ := hs
       have hsI : ¬ ((1000 : Int) < (N.size : Int)) := by omega
       have hsJ : ¬ ((1000 : Int) < (V.size : Int)) := by omega
       go_wp2
       go_roundw
       case rel => exact ⟨k + 1, hlt, by go_num, HBN.out _, fun q h1 h3 => by
        rcases Nat.lt_succ_iff_lt_or_eq.1 h3 with h | rfl
        · exact HR.out.2 q h1 h
        · rw [← HNL.out, ← HVL.out]; exact ⟨hs1, hs2⟩⟩
       case measure => simp [intOf]; omega
     · have HS := Lib.hid hs
       clear hs
       have hpn : ∀ o, Box (wr.alloc o) p [.int .i64 ((l : Int) - 1)] := fun o => (HPW.out.below HR.out.1 HPW.out.lt).alloc o
       have HPN := Lib.hid hpn
       have hgn : ∀ o, w.grownBy (wr.alloc o) (some p) := fun o => HBW.out.trans (World.grownBy_alloc _ _ _)
       have HGN := Lib.hid hgn
       clear hpn hgn
       go_wp2_with fail
       all_goals first
        | (go_ret; exact ⟨false, _, rfl, HPN.out _, HGN.out _, fun h => absurd h Bool.false_ne_true⟩)
        | (exfalso; exact HS.out ⟨by omega, by omega⟩)
   · obtain rfl : k = t.attrs.length := by omega
     have HAA : Hid (∀ a ∈ t.attrs, a.1.length ≤ 1000 ∧ a.2.length ≤ 1000) := fun a ha => by
      obtain ⟨q, hq, rfl⟩ := List.mem_iff_getElem.1 ha
      exact HR.out.2 q hq hq
     have HPR := Lib.hid (HPW.out.below HR.out.1 HPW.out.lt)
     have HXR := Lib.hid x0
     have a2 := x0.cell 2 _ rfl
     have al' := x0.lt
     clear x0 HR HX HPW HW al HATX
     go_wp2
     obtain ⟨wo, hwo⟩ : ∃ wo : World, wo = wr := ⟨_, rfl⟩
     subst hwo
     have hdw : IntKind.i64.wrap ((d : Int) - 1) = ((d - 1 : Nat) : Int) := by rw [IntWalk.i64_in _ (by omega)]; omega
     go_loopw [69] (fun i wr => ∃ (k c : Nat), k ≤ t.kids.length ∧ i = .int .i64 k ∧ Hid (wo.grownBy wr (some p) ∧ Box wr p [.int .i64 c] ∧ l = 1 + c + Tr.cntL (t.kids.take k) ∧ ∀ q (h1 : q < t.kids.length), q < k → LightT t.kids[q])) (fun i _ => t.kids.length - (intOf i).toNat)
     case atStart => exact ⟨0, l - 1, Nat.zero_le _, rfl, World.grownBy.refl _ _, by have := HPR.out; rwa [show ((l : Int) - 1) = ((l - 1 : Nat) : Int) by omega] at this, by simp [Tr.cntL]; omega, fun q _ h => absurd h (Nat.not_lt_zero q)⟩
     case round =>
      obtain ⟨k, c, hk, rfl, HR⟩ := hrel
      have hbw : w.grownBy wr (some p) := HBW.out.trans HR.out.1
      have HBR := Lib.hid hbw
      have hxp : w.heap.size ≠ p := Ne.symm hpw
      have x0 := HXR.out.grownB HR.out.1 hxp
      have pl2 := HR.out.2.1.lt
      clear hbw a2
      by_cases hlt : k < t.kids.length
      · obtain ⟨g, o, v1, v2, rfl, hg, hgp, c0, c1, c2, c3, hn1, r1, r2, r3, r4, rfl, rfl⟩ := HKS.out k hlt
        have tr : ∀ {g j u}, g < w.heap.size → ¬ g = p → w.cell? ⟨g, j, none⟩ = some u → wr.cell? ⟨g, j, none⟩ = some u := fun hg hp h => (HBR.out.cell_far _ (by exact hg) (by simpa using hp)).trans h
        have c0' := tr hg hgp c0
        have c1' := tr hg hgp c1
        have c2' := tr hg hgp c2
        have c3' := tr hg hgp c3
        have hgr : g < wr.heap.size := Nat.lt_of_lt_of_le hg HBR.out.size
        have hn1' : NodeX (fun k => k = p) wr t.kids[k] (.slice r1 t.kids[k].attrs.length r2) (.slice r3 t.kids[k].kids.length r4) := hn1.keep (KeptX.grown HBR.out (fun g e => by cases e; rfl)) (fun _ _ h => h)
        have hki : (k : Int) < (t.kids.length : Int) := by omega
        have hcl : c ≤ 300 := by have := HR.out.2.2.1; omega
        have HC : Hid (∀ o, Calls Tryz.prog 31 #[nodeV t.kids[k] (.slice r1 t.kids[k].attrs.length r2) (.slice r3 t.kids[k].kids.length r4), .int .i64 (d - 1 : Nat), .pointer (some ⟨p, 0, none⟩)] (wr.alloc o) (LightOut p c t.kids[k] (wr.alloc o))) := fun o => HI.out k hlt (wr.alloc o) _ _ c (hn1'.later ((Below.refl _ _).alloc (Nat.le_refl _) _)) (HR.out.2.1.alloc _) hcl hd0
        unfold nodeV at HC
        clear tr c0 c1 c2 c3 hn1 hn1' x0
        go_wp2_with fail
        refine (HC.out _).mono ?_
        rintro e w4 ⟨b, l', rfl, hb4, hg4, hz4⟩
        have hgn : wo.grownBy w4 (some p) := (HR.out.1.trans (World.grownBy_alloc _ _ _)).trans hg4
        have HGN := Lib.hid hgn
        have HB4 := Lib.hid hb4
        have HZ4 := Lib.hid hz4
        clear hgn hb4 hg4 hz4 HC
        cases b with
        | false =>
         go_wp2
         go_ret
         exact ⟨false, _, rfl, HB4.out, HBW.out.trans HGN.out, fun h => absurd h Bool.false_ne_true⟩
        | true =>
         go_wp2
         go_roundw
         case rel =>
          obtain ⟨z1, z2, z3⟩ := HZ4.out (by trivial)
          exact ⟨k + 1, l'.toNat, hlt, by go_num, HGN.out, by have := HB4.out; rwa [show l' = ((l'.toNat : Nat) : Int) by omega] at this, by rw [cntL_take _ _ hlt]; have := HR.out.2.2.1; omega, fun q h1 h3 => by
           rcases Nat.lt_succ_iff_lt_or_eq.1 h3 with h | rfl
           · exact HR.out.2.2.2 q h1 h
           · exact z1⟩
         case measure => simp [intOf]; omega
      · obtain rfl : k = t.kids.length := by omega
        have HLT : Hid (LightT t) := .of HNX.out.1 HNX.out.2 ha2 HAA.out hk3 (fun y hy => by
         obtain ⟨q, hq, rfl⟩ := List.mem_iff_getElem.1 hy
         exact HR.out.2.2.2 q hq hq)
        have HCN : Hid ((l : Int) = (c : Int) + t.cnt) := by
         show _ = _
         have := HR.out.2.2.1
         rw [List.take_length] at this
         rw [Tr.cnt_eq]; omega
        clear x0
        go_wp2
        go_ret
        exact ⟨true, c, rfl, HR.out.2.1, HBR.out, fun _ => ⟨HLT.out, by omega, HCN.out⟩⟩

end Go.Proofs.YtbbbfjcikhpmbaaGreat

/- Walks of functions that go through a tree's kids: Light, both Counts, Depth; their conditions stand in the theorems. -/

namespace Go.Proofs.YtbbbfjcikhpmbaaGreat
open Go Go.RowKit

/-- A kid's cells, its slices written out. -/
theorem NodeX.at {X : Nat → Prop} {w : World} {t : Tr} {av : Value} {ko : Option Addr} {m kc : Nat} (h : NodeX X w t av (.slice ko m kc)) (k : Nat) (hk : k < t.kids.length) : ∃ g o a1 a2 a3 a4, ko = some ⟨g, o, none⟩ ∧ g < w.heap.size ∧ ¬ X g ∧ w.cell? ⟨g, o + k * 4, none⟩ = some (.string (bs t.kids[k].name)) ∧ w.cell? ⟨g, o + k * 4 + 1, none⟩ = some (.slice a1 t.kids[k].attrs.length a2) ∧ w.cell? ⟨g, o + k * 4 + 2, none⟩ = some (.slice a3 t.kids[k].kids.length a4) ∧ w.cell? ⟨g, o + k * 4 + 3, none⟩ = some (.string (bs t.kids[k].text)) ∧ NodeX X w t.kids[k] (.slice a1 t.kids[k].attrs.length a2) (.slice a3 t.kids[k].kids.length a4) := by
 obtain ⟨ao, cap, e, -, h2⟩ := h.kid2
 simp only [Value.slice.injEq] at e
 obtain ⟨rfl, -, -⟩ := e
 obtain ⟨g, o, a, b, h3, h4, h5, h6, h7, h8, h9, h10, a1, a2, a3, a4, rfl, rfl⟩ := h2 k hk
 exact ⟨g, o, a1, a2, a3, a4, h3, h4, h5, h6, h7, h8, h9, h10⟩
theorem NodeX.shape {X : Nat → Prop} {w : World} {t : Tr} {av kv : Value} (h : NodeX X w t av kv) : ∃ ao ac ko kc, av = .slice ao t.attrs.length ac ∧ kv = .slice ko t.kids.length kc ∧ t.attrs.length ≤ 9223372036854775807 ∧ t.kids.length ≤ 9223372036854775807 := by
 obtain ⟨ao, ac, e1, h1, h2, -⟩ := h.att
 obtain ⟨ko, kc, e2, h3, -⟩ := h.kid2
 unfold maxLen at h2 h3
 exact ⟨ao, ac, ko, kc, e1, e2, by omega, by omega⟩
set_option maxRecDepth 100000 in
set_option maxHeartbeats 4000000 in
theorem lightTop_any (t : Tr) (w : World) (av kv : Value) (h : NodeOf w t av kv) : Calls Tryz.prog 11 #[nodeV t av kv] w fun e w' => Below w.heap.size w w' ∧ ∃ b : Bool, e = .returned (.bool b) ∧ (b = true → LightT t ∧ t.cnt ≤ 300) := by
 obtain ⟨ao, ac, ko, kc, rfl, rfl, -, -⟩ := h.shape
 have HL : Hid (∀ W, Below w.heap.size w W → Box W (w.heap.size + 1) [.int .i64 300] → Calls Tryz.prog 31 #[nodeV t (.slice ao t.attrs.length ac) (.slice ko t.kids.length kc), .int .i64 20, .pointer (some ⟨w.heap.size + 1, 0, none⟩)] W (LightOut (w.heap.size + 1) 300 t W)) := fun W hb hx => light_any _ t W _ _ 20 300 _ (Nat.le_refl _) (h.keep (Y := fun k => k = w.heap.size + 1) (KeptX.below hb) (fun k h1 h2 => by omega)) hx (Nat.le_refl _) (Nat.le_refl _)
 clear h
 unfold nodeV at HL ⊢
 go_enter Tryz.func11, Tryz.ntmps11
 go_wp2_with fail
 have hb : Below w.heap.size w ((w.alloc (.cells #[.string (bs t.name), .slice ao t.attrs.length ac, .slice ko t.kids.length kc, .string (bs t.text)] 25)).alloc (.cells #[.int .i64 300] 3)) := ((Below.refl _ w).alloc (Nat.le_refl _) _).alloc (by simp) _
 have hx : Box ((w.alloc (.cells #[.string (bs t.name), .slice ao t.attrs.length ac, .slice ko t.kids.length kc, .string (bs t.text)] 25)).alloc (.cells #[.int .i64 300] 3)) (w.heap.size + 1) [.int .i64 300] := Box.new _ _ _ _ (by simp)
 refine (HL.out _ hb hx).mono ?_
 rintro e w4 ⟨b, l', rfl, hb4, hg4, hz4⟩
 have HB := Lib.hid (hb.trans ((below_grown hg4 (Nat.le_of_lt hx.lt)).mono (by omega)))
 have HZ := Lib.hid hz4
 clear hz4 hb hx hb4 hg4 HL
 go_wp2
 go_ret
 refine ⟨HB.out, b, rfl, fun h => ?_⟩
 obtain ⟨h1, h2, h3⟩ := HZ.out h
 exact ⟨h1, by omega⟩

end Go.Proofs.YtbbbfjcikhpmbaaGreat
