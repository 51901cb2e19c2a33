/- The walk of All where the text is not too great; its conditions stand in the theorem. -/
import Derived.Test.YtphaeegbmfpcgaaGreatDoorFB10
import Derived.KernelRfl
import Derived.Test.YtphaeegbmfpcgaaGreatDoorFB08
import Derived.StillTailTactics
import Derived.Test.YtphaeegbmfpcgaaGreatDoorFB05
import Derived.Test.YtphaeegbmfpcgaaGreatDoorFB03
import Derived.Lib.Bytealg
import Derived.Lib.SplitLaws

namespace Go.Proofs.YtphaeegbmfpcgaaGreatDoor
open Go Go.RowKit

/-- What the loop over the text has done so far. -/
structure Alls (w wr : World) (s : S) (l : Bs) (ov : Value) (L : List TkM) (acc : List (Tk × Bs)) (f : Nat) : Prop where
 toks : Toks wr (w.heap.size + 4) s l ov L
 vars : Vars wr w.heap.size s (.slice none 0 0) (.int .i64 0) (.int .i64 0) (.int .i64 0) (.int .i64 0)
 below : Below w.heap.size w wr
 spec : allR s.data.toList = allGo f (decide (pos s l = 0)) acc l
 fuel : l.length ≤ f
 same : L.map (fun x => (x.t, x.off, x.line, x.col)) = acc.map (fun p => (p.1, (pos s p.2 : Int), (0 : Int), (0 : Int)))
 falls : Falls s.data.toList acc l
 num : L.length + l.length ≤ s.size
theorem Alls.drewN {w wr : World} {s : S} {l : Bs} {ov : Value} {L : List TkM} {acc : List (Tk × Bs)} {f : Nat} (h : Alls w wr s l ov L acc f) (n : Nat) : Alls w (wr.drewN n) s l ov L acc f :=
 ⟨h.toks.kept (grownN _ _ _) (h.toks.rd.drewN n), h.vars.below (belowN (Below.refl _ _) n), belowN h.below n, h.spec, h.fuel, h.same, h.falls, h.num⟩
theorem Alls.next {w wr w2 : World} {s : S} {l r : Bs} {ov ov2 av : Value} {L : List TkM} {acc : List (Tk × Bs)} {f : Nat} {t : Tk} (h : Alls w wr s l ov L acc f) (hl : l ≠ []) (ht : tokenR (decide (pos s l = 0)) l = .ok t r)
    (hT : Toks w2 (w.heap.size + 4) s r ov2 (L ++ [⟨t, av, pos s l, 0, 0⟩])) (hb : Below (w.heap.size + 4) wr w2) : Alls w w2 s r ov2 (L ++ [⟨t, av, pos s l, 0, 0⟩]) (acc ++ [(t, l)]) (f - 1) := by
 have hlt := tokenR_less ht hl
 have hsuf := suf_of_ok (tokenR_suf _ l) ht
 have hpos : 0 < l.length := List.length_pos_iff.2 hl
 obtain ⟨f', rfl⟩ : ∃ f', f = f' + 1 := ⟨f - 1, by have := h.fuel; omega⟩
 refine ⟨hT, h.vars.belowB hb (by omega), h.below.trans (hb.mono (by omega)), ?_, ?_, ?_, h.falls.snoc h.toks.rd.suf hsuf hlt t, ?_⟩
 · rw [h.spec]
   cases l with
   | nil => exact absurd rfl hl
   | cons c l =>
    simp only [allGo]
    rw [ht]
    simp only [Nat.add_sub_cancel]
    have : decide (pos s r = 0) = false := by
     have h1 := pos_add h.toks.rd.suf
     have h2 := pos_add hT.rd.suf
     simp; omega
    rw [this]
 · have := h.fuel; omega
 · rw [List.map_append, List.map_append, h.same]; rfl
 · have := h.num; rw [List.length_append, List.length_singleton]; omega
theorem Alls.bad {w wr : World} {s : S} {l r : Bs} {ov : Value} {L : List TkM} {acc : List (Tk × Bs)} {f : Nat} {x : Int} (h : Alls w wr s l ov L acc f) (hl : l ≠ []) (ht : tokenR (decide (pos s l = 0)) l = .bad x r) : allR s.data.toList = .bad x r := by
 have hpos : 0 < l.length := List.length_pos_iff.2 hl
 obtain ⟨f', rfl⟩ : ∃ f', f = f' + 1 := ⟨f - 1, by have := h.fuel; omega⟩
 rw [h.spec]
 cases l with
 | nil => exact absurd rfl hl
 | cons c l => simp only [allGo]; rw [ht]
theorem Alls.done {w wr : World} {s : S} {ov : Value} {L : List TkM} {acc : List (Tk × Bs)} {f : Nat} (h : Alls w wr s [] ov L acc f) : allR s.data.toList = .ok acc [] := by
 rw [h.spec]; cases f <;> rfl
theorem Alls.start {w W : World} {s : S} (hx : Box W (w.heap.size + 4) [.string s, .int .i64 0, .slice none 0 0]) (hV : Vars W w.heap.size s (.slice none 0 0) (.int .i64 0) (.int .i64 0) (.int .i64 0) (.int .i64 0)) (hb : Below w.heap.size w W) :
    Alls w W s s.data.toList (.slice none 0 0) [] [] s.size := by
 have hp : pos s s.data.toList = 0 := by unfold pos; rw [size_data]; omega
 refine ⟨⟨⟨by rw [hp]; exact hx, List.suffix_refl _⟩, Owns.nil, by simp⟩, hV, hb, ?_, by rw [size_data]; exact Nat.le_refl _, rfl, Falls.nil _ _, by simp⟩
 rw [hp]; unfold allR; rw [size_data]; rfl
/-- The places of the tokens lie in the text and rise. -/
theorem Alls.rises {w wr : World} {s : S} {ov : Value} {L : List TkM} {acc : List (Tk × Bs)} {f : Nat} (h : Alls w wr s [] ov L acc f) :
    (∀ j (hj : j < L.length), ∃ o : Nat, L[j].off = o ∧ o < s.size) ∧ ∀ i j (hi : i < j) (hj : j < L.length), L[i].off ≤ L[j].off := by
 have hlen : L.length = acc.length := by have := congrArg List.length h.same; simpa using this
 have hoff : ∀ j (hj : j < L.length), L[j].off = (pos s (acc[j]'(by omega)).2 : Int) := fun j hj => by
  have := congrArg (·[j]?) h.same
  simp only [List.getElem?_map, List.getElem?_eq_getElem hj, List.getElem?_eq_getElem (show j < acc.length by omega), Option.map_some, Option.some.injEq, Prod.mk.injEq] at this
  exact this.2.1
 refine ⟨fun j hj => ⟨_, hoff j hj, ?_⟩, fun i j hi hj => ?_⟩
 · obtain ⟨-, h2, h3⟩ := h.falls.2 (acc[j]'(by omega)) (List.getElem_mem _)
   have := pos_add h3
   simp at h2; omega
 · rw [hoff i (by omega), hoff j hj]
   have h1 := List.pairwise_iff_getElem.1 h.falls.1 i j (by omega) (by omega) hi
   obtain ⟨-, -, h3⟩ := h.falls.2 (acc[i]'(by omega)) (List.getElem_mem _)
   obtain ⟨-, -, h4⟩ := h.falls.2 (acc[j]'(by omega)) (List.getElem_mem _)
   have := pos_add h3
   have := pos_add h4
   have := h1.2
   omega
theorem Alls.places {w wr : World} {s : S} {l : Bs} {ov : Value} {L : List TkM} {acc : List (Tk × Bs)} {f : Nat} (h : Alls w wr s l ov L acc f) :
    (L.map (fillT s)).map (fun x => (x.t, x.off, x.line, x.col)) = acc.map (fun p => (p.1, (pos s p.2 : Int), ((lineCol (s.data.toList.take (pos s p.2))).1 : Int), ((lineCol (s.data.toList.take (pos s p.2))).2 : Int))) := by
 have h1 := congrArg (List.map (fun q : Tk × Int × Int × Int => (q.1, q.2.1, ((lineCol (s.data.toList.take q.2.1.toNat)).1 : Int), ((lineCol (s.data.toList.take q.2.1.toNat)).2 : Int)))) h.same
 rw [List.map_map, List.map_map] at h1
 rw [List.map_map]
 refine Eq.trans ?_ (h1.trans ?_)
 · rfl
 · rfl
theorem own_stored {α : Type} {base E n : Nat} {C : α → List Value} {W : World} {B : Nat} {v : Value} {l : List α} (h : Owns base E n C W v l) (hB : B + 3 < base) (u1 u2 q0 q1 q2 : Value) : Owns base E n C (((((W.setCell ⟨B + 1, 0, none⟩ u1).setCell ⟨B + 2, 0, none⟩ u2).setCell ⟨B + 3, 0, none⟩ q0).setCell ⟨B + 3, 1, none⟩ q1).setCell ⟨B + 3, 2, none⟩ q2) v l :=
 ((((h.keptR (setCell_grown _ _ _ _) (by omega)).keptR (setCell_grown _ _ _ _) (by omega)).keptR (setCell_grown _ _ _ _) (by omega)).keptR (setCell_grown _ _ _ _) (by omega)).keptR (setCell_grown _ _ _ _) (by omega)
set_option maxRecDepth 100000 in
set_option maxHeartbeats 8000000 in
theorem all_small (s : S) (m : Int) (w : World) (hs : s.size ≤ 65536) (hm : w.cell? ⟨0, 0, none⟩ = some (.int .i64 m)) :
    Calls Tryz.prog 80 #[.string s] w (AllOut s w (allR s.data.toList)) := by
 have hsi : ¬ (65536 : Int) < (s.size : Int) := by omega
 have hw0 : 0 < w.heap.size := World.block_lt_of_cell? w _ hm
 have HM := Lib.hid hm
 clear hm
 have hmf : ∀ (fn : Fn) (first cap : Array Value) (w : World), (Instr.makeFunc fn first cap).run Tryz.prog w = .ok (.func fn first cap) w := fun _ _ _ _ => rfl
 go_enter_defers Tryz.func80, Tryz.ntmps80
 go_wp2
 refine wp_world ?_
 intro W hW
 have hV : Vars W w.heap.size s (.slice none 0 0) (.int .i64 0) (.int .i64 0) (.int .i64 0) (.int .i64 0) := by rw [hW]; exact (Vars.made w s).below ((Below.refl _ _).alloc (Nat.le_refl _) _)
 have hB : Below w.heap.size w W := by rw [hW]; exact (((((Below.refl _ _).alloc (Nat.le_refl _) _).alloc (by simp) _).alloc (by simp; omega) _).alloc (by simp; omega) _).alloc (by simp; omega) _
 have hx : Box W (w.heap.size + 4) [.string s, .int .i64 0, .slice none 0 0] := by rw [hW]; exact Box.new _ _ _ _ (by simp)
 have hA := Lib.hid (Alls.start hx hV hB)
 clear hW hV hB hx hmf
 go_loopw [] (fun wr => ∃ l ov L acc f, Alls w wr s l ov L acc f) (fun wr => s.size - (placeOf wr (w.heap.size + 4)).toNat)
 case atStart => exact ⟨_, _, _, _, _, hA.out⟩
 case round =>
  clear hA
  obtain ⟨l, ov, L, acc, f, hA⟩ := hrel
  have HA := Lib.hid hA
  have hm : wr.cell? ⟨0, 0, none⟩ = some (.int .i64 m) := (hA.below.cell (by simpa using hw0)).trans HM.out
  have hnum := hA.num
  have hlt4 := hA.toks.rd.box.lt
  clear hA
  by_cases hl : l = []
  · subst hl
    have HN : Hid (Calls Tryz.prog 120 #[.pointer (some ⟨w.heap.size + 4, 0, none⟩)] wr (Qt (.bool true) wr)) := ends_any (w.heap.size + 4) s [] ov wr HA.out.toks.rd
    obtain ⟨ao, cap, rfl⟩ := HA.out.toks.own.shape
    have c2 := HA.out.toks.rd.c2
    go_wp2_with fail
    refine HN.out.mono ?_
    rintro e w1 ⟨rfl, n, rfl⟩
    obtain ⟨hoff, hmono⟩ := HA.out.rises
    have HOF := Lib.hid hoff
    have HMO := Lib.hid hmono
    have hP : Places w (wr.drewN n) s ao cap L 0 := ⟨(HA.out.drewN n).toks.rd, (HA.out.drewN n).vars, (HA.out.drewN n).below, by simpa using (HA.out.drewN n).toks.own, by simpa using (HA.out.drewN n).toks.att⟩
    have HP := Lib.hid hP
    have hLm : L.length ≤ 65536 := by omega
    clear hoff hmono hP
    go_wp2
    clear c2
    go_loopw [6, 7, 8, 9, 32] (fun li ah _ _ i wr => ∃ k a : Nat, k ≤ L.length ∧ i = .int .i64 k ∧ a ≤ s.size ∧ ah = .int .i64 a ∧ li = .int .i64 (lineCol (s.data.toList.take a)).1 ∧ Hid (∀ j (hj : j < L.length), k ≤ j → (a : Int) ≤ L[j].off) ∧ Places w wr s ao cap L k) (fun _ _ _ _ i _ => L.length - (intOf i).toNat)
    case atStart => exact ⟨0, 0, Nat.zero_le _, rfl, Nat.zero_le _, rfl, by simp [lineCol], fun j hj _ => by obtain ⟨o, h1, -⟩ := HOF.out j hj; omega, HP.out⟩
    case round =>
     clear HP
     obtain ⟨k, a, hk, rfl, ha, rfl, rfl, HR, hP⟩ := hrel
     have HP := Lib.hid hP
     have hltP := hP.rd.box.lt
     have c2 := hP.rd.c2
     have cT := hP.vars.x0.cell 0 _ rfl
     clear hP
     by_cases hkl : k < L.length
     · have hlenM : ((L.take k).map (fillT s) ++ L.drop k).length = L.length := by simp; omega
       have hown : Owns (w.heap.size + 5) 157 7 tkC wr (.slice ao ((L.take k).map (fillT s) ++ L.drop k).length cap) ((L.take k).map (fillT s) ++ L.drop k) := by rw [hlenM]; exact HP.out.own
       obtain ⟨g, rfl, hg1, hg2, -, hf5, hcells, -⟩ := own_store (j := 5) tkC_len hown (fill_get hkl) (by decide)
       obtain ⟨g2, e2, -, -, -, hf6, -, -⟩ := own_store (j := 6) tkC_len hown (fill_get hkl) (by decide)
       cases e2
       have d4 := hcells 4 _ rfl
       have d5 : wr.cell? ⟨g, k * 7 + 4 + 1, none⟩ = some (.int .i64 L[k].line) := hcells 5 _ rfl
       have d6 : wr.cell? ⟨g, k * 7 + 4 + 2, none⟩ = some (.int .i64 L[k].col) := hcells 6 _ rfl
       have hf5' : wr.frozen? ⟨g, k * 7 + 4 + 1, none⟩ = false := hf5
       have hf6' : wr.frozen? ⟨g, k * 7 + 4 + 2, none⟩ = false := hf6
       obtain ⟨o, ho, hos⟩ := HOF.out k hkl
       have hao := HR.out k hkl (Nat.le_refl _)
       have hao2 : a ≤ o := by omega
       rw [ho] at d4
       have HOo := Lib.hid ho
       have hHN : Hid (∀ j (hj : j < L.length), k + 1 ≤ j → (o : Int) ≤ L[j].off) := fun j hj hkj => by
        rw [← HOo.out]; exact HMO.out k j (by omega) hj
       have hG := Lib.hid hg1
       clear hown hcells hlenM ho hao hg1 hf5 hf6
       generalize hl5 : L[k].line = l5 at *
       generalize hl6 : L[k].col = l6 at *
       clear hl5 hl6
       go_wp2
       go_loop [6, 7] (fun li ah => ∃ a' : Nat, a' ≤ o ∧ ah = .int .i64 a' ∧ li = .int .i64 (lineCol (s.data.toList.take a')).1) (fun _ ah => o - (intOf ah).toNat)
       case atStart => exact ⟨a, hao2, rfl, rfl⟩
       case round =>
        clear hao2 ha
        obtain ⟨a', ha', rfl, rfl⟩ := hrel
        have hb1 := (lineCol_pos (s.data.toList.take a')).2.2.1
        rw [List.length_take] at hb1
        have hb2 : (lineCol (s.data.toList.take a')).1 ≤ 65537 := by omega
        clear hb1
        by_cases hlt : a' < o
        · have has : a' < s.size := by omega
          have hsn : s.data.toList.take (a' + 1) = s.data.toList.take a' ++ [s[a']] := by
           rw [List.take_succ_eq_append_getElem (by rw [size_data]; exact has)]; rfl
          by_cases h10 : s[a'] = 10
          · have e1 : (((s[a'].toNat : Nat) : Int) == 10) = true := by rw [h10]; decide
            have HL : Hid ((lineCol (s.data.toList.take (a' + 1))).1 = (lineCol (s.data.toList.take a')).1 + 1) := by show _ = _; rw [hsn, lineCol_snoc, if_pos h10]
            clear hsn h10
            generalize (lineCol (s.data.toList.take a')).1 = li at *
            go_wp2
            go_round
            case rel => exact ⟨a' + 1, hlt, by go_num, by rw [HL.out]; go_num⟩
            case measure => simp [intOf]; omega
          · have e1 : (((s[a'].toNat : Nat) : Int) == 10) = false := by
             rw [beq_eq_false_iff_ne]; intro e; exact h10 (UInt8.toNat_inj.1 (by simpa using (by omega : s[a'].toNat = 10)))
            have HL : Hid ((lineCol (s.data.toList.take (a' + 1))).1 = (lineCol (s.data.toList.take a')).1) := by show _ = _; rw [hsn, lineCol_snoc, if_neg h10]
            clear hsn h10
            generalize (lineCol (s.data.toList.take a')).1 = li at *
            go_wp2
            go_round
            case rel => exact ⟨a' + 1, hlt, by go_num, by rw [HL.out]⟩
            case measure => simp [intOf]; omega
        · obtain rfl : a' = o := by omega
          have hex : (s.extract 0 a').data.toList = s.data.toList.take a' := by rw [Lib.extract_data]; simp
          have hez : (s.extract 0 a').size = a' := by rw [← size_data, hex, List.length_take, size_data]; omega
          have HLI := Lib.hid (fun w => lastIndexByte_any (s.extract 0 a') w (by rw [hez]; omega))
          rw [hex, hez] at HLI
          have hb3 := (lineCol_pos (s.data.toList.take a')).2.2.2
          rw [List.length_take] at hb3
          have hb4 : (lineCol (s.data.toList.take a')).2 ≤ 65537 := by omega
          have HST := Lib.hid (HP.out.step hkl hG.out)
          have hfl : (fillT s L[k]).line = ((lineCol (s.data.toList.take a')).1 : Int) := by unfold fillT; rw [HOo.out, Int.toNat_natCast]
          have hfc : (fillT s L[k]).col = ((lineCol (s.data.toList.take a')).2 : Int) := by unfold fillT; rw [HOo.out, Int.toNat_natCast]
          rw [hfl, hfc] at HST
          clear hex hez hb3 hfl hfc
          have hi1 : a' ≤ s.size := by omega
          generalize hli : (lineCol (s.data.toList.take a')).1 = li at *
          generalize hco : (lineCol (s.data.toList.take a')).2 = co at *
          have HLL := Lib.hid hli
          clear hli hco
          go_wp2_with fail
          refine (HLI.out _).mono ?_
          rintro e w' ⟨rfl, rfl⟩
          go_wp2
          go_roundw
          case rel => exact ⟨k + 1, a', hkl, by go_num, hi1, rfl, by rw [HLL.out], hHN, by first | exact HST.out | (rw [show (a' : Int) - ((a' : Int) - (co : Int)) = (co : Int) by omega]; exact HST.out)⟩
          case measure => simp [intOf]; omega
     · obtain rfl : k = L.length := by omega
       have a1 := HP.out.vars.x1.cell 0 _ rfl
       have a2 := HP.out.vars.x2.cell 0 _ rfl
       obtain ⟨a3, a4, a5⟩ := bxc3 HP.out.vars.x3
       have f1 := HP.out.vars.x1.free 0
       have f2 := HP.out.vars.x2.free 0
       have f3 := HP.out.vars.x3.free 0
       have f4 := HP.out.vars.x3.free 1
       have f5 := HP.out.vars.x3.free 2
       have l3 := HP.out.vars.x3.lt
       go_wp2
       have hV3 := HP.out.vars.store (.slice ao L.length cap) (.int .i64 0) (.int .i64 0) (.int .i64 0) (.int .i64 0)
       have hB3 := below_store HP.out.below (.slice ao L.length cap) (.int .i64 0) (.int .i64 0) (.int .i64 0) (.int .i64 0)
       have hO3 := own_stored (B := w.heap.size) HP.out.own (by omega) (.slice ao L.length cap) (.int .i64 0) (.int .i64 0) (.int .i64 0) (.int .i64 0)
       have hA3 := fun x hx => own_stored (B := w.heap.size) (HP.out.att x hx) (by omega) (.slice ao L.length cap) (.int .i64 0) (.int .i64 0) (.int .i64 0) (.int .i64 0)
       rw [List.take_length, List.drop_length, List.append_nil] at hO3 hA3
       clear a1 a2 a3 a4 a5 f1 f2 f3 f4 f5 l3 c2 cT
       generalize (((((wr.setCell ⟨w.heap.size + 1, 0, none⟩ (.slice ao L.length cap)).setCell ⟨w.heap.size + 2, 0, none⟩ (.int .i64 0)).setCell ⟨w.heap.size + 3, 0, none⟩ (.int .i64 0)).setCell ⟨w.heap.size + 3, 1, none⟩ (.int .i64 0)).setCell ⟨w.heap.size + 3, 2, none⟩ (.int .i64 0)) = W3 at *
       rw [HA.out.done]
       refine leaves_cons (f := 119) (args := #[.pointer (some ⟨w.heap.size, 0, none⟩), .pointer (some ⟨w.heap.size + 1, 0, none⟩), .pointer (some ⟨w.heap.size + 2, 0, none⟩), .pointer (some ⟨w.heap.size + 3, 0, none⟩)]) (by simp) (by simp [go_sem]) ?_
       refine (catch_idle _ _ _ _ W3).mono ?_
       rintro e u' w4 ⟨rfl, rfl, rfl⟩
       have a1 := hV3.x1.cell 0 _ rfl
       have a2 := hV3.x2.cell 0 _ rfl
       obtain ⟨a3, a4, a5⟩ := bxc3 hV3.x3
       refine ⟨.tuple #[.slice ao L.length cap, .int .i64 0, zeroPlace], ?_, _, L.map (fillT s), rfl, ⟨hO3.base_mono (by omega), fun x hx => (hA3 x hx).base_mono (by omega), HA.out.places⟩, hB3⟩
       clear hV3 hB3 hO3 hA3
       simp [results, Tryz.results80, go_sem, a1, a2, a3, a4, a5, zeroPlace]
  · have HN : Hid (Calls Tryz.prog 120 #[.pointer (some ⟨w.heap.size + 4, 0, none⟩)] wr (Qt (.bool false) wr)) := by
     have := ends_any (w.heap.size + 4) s l ov wr HA.out.toks.rd
     rw [show l.isEmpty = false by cases l with | nil => exact absurd rfl hl | cons c r => rfl] at this; exact this
    have hcall := fun n => token_any (w.heap.size + 4) s l ov L m (wr.drewN n) (HA.out.drewN n).toks hs hm (by omega)
    have HL := Lib.hid hl
    clear hl
    cases ht : tokenR (decide (pos s l = 0)) l with
    | bad x r =>
     rw [ht] at hcall
     have HCL := Lib.hid hcall
     have HT := Lib.hid ht
     clear hcall ht
     go_wp2_with fail
     refine HN.out.mono ?_
     rintro e w1 ⟨rfl, n, rfl⟩
     go_wp2_with fail
     refine (HCL.out n).mono ?_
     intro e w2 hO
     obtain ⟨rfl, hb⟩ : e = .panicked [{ v := faultV x (pos s r), recovered := false }] ∧ Below (w.heap.size + 4) _ w2 := hO
     go_wp2
     rw [HA.out.bad HL.out HT.out]
     have hV2 := (HA.out.drewN n).vars.belowB hb (by omega)
     have hB2 := (HA.out.drewN n).below.trans (hb.mono (by omega))
     have hpr : pos s r ≤ s.size := by unfold pos; omega
     clear hb HCL HN
     refine leaves_cons (f := 119) (args := #[.pointer (some ⟨w.heap.size, 0, none⟩), .pointer (some ⟨w.heap.size + 1, 0, none⟩), .pointer (some ⟨w.heap.size + 2, 0, none⟩), .pointer (some ⟨w.heap.size + 3, 0, none⟩)]) (by simp) (by simp [go_sem]) ?_
     refine (catch_panicking w.heap.size s x (pos s r) [] _ _ _ _ _ w2 hpr (by omega) hV2.x0 hV2.x1 hV2.x2 hV2.x3).mono ?_
     rintro e u' w3 ⟨rfl, rfl, hx1, hx2, ⟨q0, q1, q2, hq, hx3⟩, hb3⟩
     have a1 := hx1.cell 0 _ rfl
     have a2 := hx2.cell 0 _ rfl
     obtain ⟨a3, a4, a5⟩ := bxc3 hx3
     have hB3 := hB2.trans hb3
     clear hx1 hx2 hx3 hb3 hB2 hV2
     refine ⟨.tuple #[.slice none 0 0, .int .i64 x, placeV s.data.toList (pos s r)], ?_, rfl, hB3⟩
     rw [hq]
     simp [results, Tryz.results80, go_sem, a1, a2, a3, a4, a5]
    | ok t r =>
     rw [ht] at hcall
     have HCL := Lib.hid hcall
     have HT := Lib.hid ht
     clear hcall ht
     go_wp2_with fail
     refine HN.out.mono ?_
     rintro e w1 ⟨rfl, n, rfl⟩
     go_wp2_with fail
     refine (HCL.out n).mono ?_
     intro e w2 hO
     obtain ⟨rfl, ov2, av, hT2, hb⟩ : e = .returned (.tuple #[]) ∧ ∃ ov2 av, Toks w2 (w.heap.size + 4) s r ov2 (L ++ [(⟨t, av, ((pos s l : Nat) : Int), 0, 0⟩ : TkM)]) ∧ Below (w.heap.size + 4) (wr.drewN n) w2 := hO
     have hnew := (HA.out.drewN n).next HL.out HT.out hT2 hb
     clear hT2 hb HCL HN
     go_wp2
     go_roundw
     case rel => exact ⟨_, _, _, _, _, hnew⟩
     case measure =>
      rw [HA.out.toks.rd.place, hnew.toks.rd.place]
      have := pos_add HA.out.toks.rd.suf
      have := pos_add hnew.toks.rd.suf
      have := tokenR_less HT.out HL.out
      omega

end Go.Proofs.YtphaeegbmfpcgaaGreatDoor

/- The law's example, walked; its condition stands in the theorem. -/
namespace Go.Proofs.YtphaeegbmfpcgaaGreatDoor
open Go Go.RowKit

theorem TokSl.len {base : Nat} {w : World} {s : S} {ov : Value} {L : List TkM} {acc : List (Tk × Bs)} (h : TokSl base w s ov L acc) : L.length = acc.length := by
 have := congrArg List.length h.is; simpa using this
/-- The i-th token's cells. -/
theorem TokSl.at {base : Nat} {w : World} {s : S} {ov : Value} {L : List TkM} {acc : List (Tk × Bs)} (h : TokSl base w s ov L acc) {i : Nat} {t : Tk} {r : Bs} (hi : acc[i]? = some (t, r)) :
    ∃ g o cap av, ov = .slice (some ⟨g, o, none⟩) acc.length cap ∧ g < w.heap.size ∧ w.cell? ⟨g, o + i * 7, none⟩ = some (.int .i64 t.kind) ∧ w.cell? ⟨g, o + i * 7 + 1, none⟩ = some (.string (bs t.name)) ∧ w.cell? ⟨g, o + i * 7 + 2, none⟩ = some av ∧ w.cell? ⟨g, o + i * 7 + 3, none⟩ = some (.string (bs t.text)) ∧
     w.cell? ⟨g, o + i * 7 + 4, none⟩ = some (.int .i64 (pos s r : Nat)) ∧ w.cell? ⟨g, o + i * 7 + 5, none⟩ = some (.int .i64 (lineCol (s.data.toList.take (pos s r))).1) ∧ w.cell? ⟨g, o + i * 7 + 6, none⟩ = some (.int .i64 (lineCol (s.data.toList.take (pos s r))).2) ∧ Owns base 176 2 atC w av t.attrs := by
 have hl := h.len
 have hlt : i < L.length := by rw [hl]; exact (List.getElem?_eq_some_iff.1 hi).1
 have his := congrArg (·[i]?) h.is
 simp only [List.getElem?_map, List.getElem?_eq_getElem hlt, hi, Option.map_some, Option.some.injEq, Prod.mk.injEq] at his
 obtain ⟨h1, h2, h3, h4⟩ := his
 obtain ⟨ao, cap, rfl⟩ := h.own.shape
 obtain ⟨g, o, rfl, hg, hc⟩ := (h.own.slice tkC_len).at hlt
 have ha := h.att L[i] (List.getElem_mem hlt)
 rw [h1] at ha
 refine ⟨g, o, cap, L[i].av, by rw [hl], hg, ?_, ?_, hc 2 _ rfl, ?_, ?_, ?_, ?_, ha⟩
 · rw [← h1]; simpa using hc 0 _ rfl
 · rw [← h1]; exact hc 1 _ rfl
 · rw [← h1]; exact hc 3 _ rfl
 · rw [← h2]; exact hc 4 _ rfl
 · rw [← h3]; exact hc 5 _ rfl
 · rw [← h4]; exact hc 6 _ rfl
theorem all_ok (s : S) (m : Int) (w : World) {acc : List (Tk × Bs)} {r : Bs} (hs : s.size ≤ 65536) (hm : w.cell? ⟨0, 0, none⟩ = some (.int .i64 m)) (h : allR s.data.toList = .ok acc r) :
    Calls Tryz.prog 80 #[.string s] w (AllOut s w (.ok acc r)) := by rw [← h]; exact all_small s m w hs hm
theorem all_bad (s : S) (m : Int) (w : World) {x : Int} {r : Bs} (hs : s.size ≤ 65536) (hm : w.cell? ⟨0, 0, none⟩ = some (.int .i64 m)) (h : allR s.data.toList = .bad x r) :
    Calls Tryz.prog 80 #[.string s] w (AllOut s w (.bad x r)) := by rw [← h]; exact all_small s m w hs hm

end Go.Proofs.YtphaeegbmfpcgaaGreatDoor

/- What a text's tokens are, and what Build returns; no walk. -/

namespace Go.Proofs.YtphaeegbmfpcgaaGreatDoor
open Go Go.RowKit

variable {lo : Nat}
theorem stepB_bad {st : BSt} {t : Tk} {x : Int} (h : stepB st t = .bad x) : x ≠ 0 := by
 have hb : ∀ {y : Int}, beginB st t = .bad y → y ≠ 0 := fun hy => by rcases beginB_bad hy with rfl | rfl <;> decide
 unfold stepB at h
 split at h
 · unfold lettersB at h
   split at h
   · split at h
     · cases h
     · cases h; decide
   · split at h
     · cases h
     · split at h
       · cases h
       · split at h
         · cases h; decide
         · cases h
 · split at h
   · exact hb h
   · split at h
     · cases hB : beginB st t with
       | bad y => rw [hB] at h; cases h; exact hb hB
       | ok st' =>
        rw [hB, beginB_ok hB] at h
        cases h
     · split at h
       · unfold endB at h
         split at h
         · cases h; decide
         · split at h
           · cases h
           · cases h; decide
       · cases h
theorem tokenR_kinds {first : Bool} {l : Bs} {t : Tk} {r : Bs} (h : tokenR first l = .ok t r) : t.kind = 1 ∨ t.kind = 2 ∨ t.kind = 3 ∨ t.kind = 4 ∨ t.kind = 5 ∨ t.kind = 6 := by
 have hm : ∀ {α : Type} {x : Res α} {f : α → Tk} {k : Int} {t : Tk} {r : Bs}, (∀ a, (f a).kind = k) → x.map f = .ok t r → t.kind = k := by
  intro α x f k t r hf hx
  cases x with
  | ok a r' => simp only [Res.map, Res.ok.injEq] at hx; rw [← hx.1]; exact hf a
  | bad e r' => simp [Res.map] at hx
 unfold tokenR at h
 split at h
 · exact .inr (.inr (.inr (.inr (.inl (hm (fun _ => rfl) h)))))
 · split at h
   · exact .inr (.inr (.inr (.inl (hm (fun _ => rfl) h))))
   · split at h
     · exact .inr (.inr (.inr (.inr (.inr (hm (fun _ => rfl) h)))))
     · split at h
       · exact .inr (.inr (.inl (closeR_kind h)))
       · rcases openR_kind h with e | e
         · exact .inl e
         · exact .inr (.inl e)
       · exact .inr (.inr (.inr (.inl (hm (fun _ => rfl) h))))
theorem tksW_len2 (l : List Tk) : 20 * l.length ≤ tksW l := by
 induction l with
 | nil => simp [tksW]
 | cons t l ih =>
  simp only [tksW, List.map_cons, List.sum_cons, List.length_cons] at ih ⊢
  unfold tkW at *
  omega
theorem toks_small {T : Bs} {acc : List (Tk × Bs)} {r : Bs} (h : allR T = .ok acc r) (hT : T.length ≤ 65536) : acc.length ≤ 100000 ∧ (∀ k (hk : k < acc.length), acc[k].1.text.length ≤ 2000000) ∧ ∀ k (hk : k < acc.length), acc[k].1.kind = 1 ∨ acc[k].1.kind = 2 ∨ acc[k].1.kind = 3 ∨ acc[k].1.kind = 4 ∨ acc[k].1.kind = 5 ∨ acc[k].1.kind = 6 := by
 have h1 := (allR_eat h).2
 have h2 := tksW_len2 (acc.map (·.1))
 rw [List.length_map] at h2
 refine ⟨by omega, fun k hk => ?_, fun k hk => ?_⟩
 · have h3 := tksW_get (l := acc.map (·.1)) (k := k) (by simpa using hk)
   rw [List.getElem_map] at h3
   unfold tkW at h3
   omega
 · obtain ⟨-, first, r', h4⟩ := (allR_facts h).2.2.1 acc[k] (List.getElem_mem hk)
   exact tokenR_kinds h4
def nodeV (t : Tr) (av kv : Value) : Value := .agg #[.string (bs t.name), av, kv, .string (bs t.text)]
def noNode : Value := .agg #[.string ⟨#[]⟩, .slice none 0 0, .slice none 0 0, .string ⟨#[]⟩]
/-- What Build returns. -/
def BuildOut (s : S) (w : World) : Res Tr → Ending → World → Prop
 | .ok t _ => fun e w' => ∃ av kv, e = .returned (.tuple #[nodeV t av kv, .int .i64 0, zeroPlace]) ∧ NodeOf w' t av kv ∧ Below w.heap.size w w'
 | .bad x r => fun e w' => e = .returned (.tuple #[noNode, .int .i64 x, placeV s.data.toList (pos s r)]) ∧ Below w.heap.size w w'
/-- A text's tokens in memory, in blocks ahead of B. -/
def TokAt (lo B : Nat) (w : World) (s : S) (ov : Value) (acc : List (Tk × Bs)) : Prop :=
 (∃ ao cap, ov = .slice ao acc.length cap) ∧ ∀ i t r, acc[i]? = some (t, r) → ∃ g o cap av, ov = .slice (some ⟨g, o, none⟩) acc.length cap ∧ g < B ∧ w.cell? ⟨g, o + i * 7, none⟩ = some (.int .i64 t.kind) ∧ w.cell? ⟨g, o + i * 7 + 1, none⟩ = some (.string (bs t.name)) ∧ w.cell? ⟨g, o + i * 7 + 2, none⟩ = some av ∧ w.cell? ⟨g, o + i * 7 + 3, none⟩ = some (.string (bs t.text)) ∧
  w.cell? ⟨g, o + i * 7 + 4, none⟩ = some (.int .i64 (pos s r : Nat)) ∧ w.cell? ⟨g, o + i * 7 + 5, none⟩ = some (.int .i64 (lineCol (s.data.toList.take (pos s r))).1) ∧ w.cell? ⟨g, o + i * 7 + 6, none⟩ = some (.int .i64 (lineCol (s.data.toList.take (pos s r))).2) ∧ AttB lo B w av t.attrs
theorem TokAt.of {base B : Nat} {w : World} {s : S} {ov : Value} {L : List TkM} {acc : List (Tk × Bs)} (h : TokSl base w s ov L acc) (hl : lo ≤ base) (hB : w.heap.size ≤ B) : TokAt lo B w s ov acc := by
 refine ⟨?_, fun i t r hi => ?_⟩
 · obtain ⟨ao, cap, e⟩ := h.own.shape
   exact ⟨ao, cap, by rw [e, h.len]⟩
 · obtain ⟨g, o, cap, av, e, hg, c0, c1, c2, c3, c4, c5, c6, ha⟩ := h.at hi
   exact ⟨g, o, cap, av, e, by omega, c0, c1, c2, c3, c4, c5, c6, ha.toX atC_len (fun k hk hx => by have := ha.lt k hk; omega)⟩
theorem TokAt.mono {B B' : Nat} {w : World} {s : S} {ov : Value} {acc : List (Tk × Bs)} (h : TokAt lo B w s ov acc) (hB : B ≤ B') : TokAt lo B' w s ov acc := by
 refine ⟨h.1, fun i t r hi => ?_⟩
 obtain ⟨g, o, cap, av, e, hg, c0, c1, c2, c3, c4, c5, c6, ha⟩ := h.2 i t r hi
 exact ⟨g, o, cap, av, e, by omega, c0, c1, c2, c3, c4, c5, c6, SliceX.keep ha (KeptX.refl _ _) (fun k _ hk => hk.imp (fun hk => Nat.le_trans hB hk) id)⟩
theorem TokAt.below {B : Nat} {w w' : World} {s : S} {ov : Value} {acc : List (Tk × Bs)} (h : TokAt lo B w s ov acc) (hb : Below B w w') : TokAt lo B w' s ov acc := by
 refine ⟨h.1, fun i t r hi => ?_⟩
 obtain ⟨g, o, cap, av, e, hg, c0, c1, c2, c3, c4, c5, c6, ha⟩ := h.2 i t r hi
 have hc : ∀ j, w'.cell? ⟨g, j, none⟩ = w.cell? ⟨g, j, none⟩ := fun j => hb.cell (p := ⟨g, j, none⟩) (by exact hg)
 exact ⟨g, o, cap, av, e, hg, (hc _).trans c0, (hc _).trans c1, (hc _).trans c2, (hc _).trans c3, (hc _).trans c4, (hc _).trans c5, (hc _).trans c6, ha.below hb⟩

end Go.Proofs.YtphaeegbmfpcgaaGreatDoor

/- The walk of the document's Same on trees; its conditions stand in the theorem. -/
namespace Go.Proofs.YtphaeegbmfpcgaaGreatDoor
open Go Go.RowKit

/-- A kid's cells. -/
theorem NodeX.kid {X : Nat → Prop} {w : World} {t : Tr} {av kv : Value} (h : NodeX X w t av kv) : ∃ ao cap, kv = .slice ao t.kids.length cap ∧ t.kids.length ≤ maxLen ∧ ∀ k (hk : k < t.kids.length), ∃ g o a b, ao = some ⟨g, o, none⟩ ∧ g < w.heap.size ∧ w.cell? ⟨g, o + k * 4, none⟩ = some (.string (bs t.kids[k].name)) ∧ w.cell? ⟨g, o + k * 4 + 1, none⟩ = some a ∧ w.cell? ⟨g, o + k * 4 + 2, none⟩ = some b ∧ w.cell? ⟨g, o + k * 4 + 3, none⟩ = some (.string (bs t.kids[k].text)) ∧ NodeX X w t.kids[k] a b := by
 obtain ⟨L, his, -, ho, hn⟩ := h.parts
 obtain ⟨ao, cap, h1, h2, h3, h4, h5⟩ := ho
 have hl : L.length = t.kids.length := by rw [← his]; simp
 refine ⟨ao, cap, by rw [h1, hl], by omega, fun k hk => ?_⟩
 have hkL : k < L.length := by omega
 obtain ⟨g, o, e1, e2, -, e3⟩ := h5 k L[k] (List.getElem?_eq_getElem hkL)
 have hkid : t.kids[k] = L[k].1 := by
  have : (L.map (·.1))[k]'(by simpa using hkL) = L[k].1 := by simp
  rw [← this]
  congr 1
  exact his.symm
 refine ⟨g, o, L[k].2.1, L[k].2.2, e1, e2, ?_, e3 1 _ rfl, e3 2 _ rfl, ?_, ?_⟩
 · rw [hkid]; simpa using e3 0 _ rfl
 · rw [hkid]; exact e3 3 _ rfl
 · rw [hkid]; exact hn _ (List.getElem_mem hkL)
theorem NodeX.att {X : Nat → Prop} {w : World} {t : Tr} {av kv : Value} (h : NodeX X w t av kv) : SliceOf 2 atC w av t.attrs := by
 obtain ⟨_, -, h1, -⟩ := h.parts
 exact h1.slice

end Go.Proofs.YtphaeegbmfpcgaaGreatDoor

/- The law's Light on trees, walked; its conditions stand in the theorems. -/

namespace Go.Proofs.YtphaeegbmfpcgaaGreatDoor
open Go Go.RowKit

theorem NodeX.kid2 {X : Nat → Prop} {w : World} {t : Tr} {av kv : Value} (h : NodeX X w t av kv) : ∃ ao cap, kv = .slice ao t.kids.length cap ∧ t.kids.length ≤ maxLen ∧ ∀ k (hk : k < t.kids.length), ∃ g o a b, ao = some ⟨g, o, none⟩ ∧ g < w.heap.size ∧ ¬ X g ∧ w.cell? ⟨g, o + k * 4, none⟩ = some (.string (bs t.kids[k].name)) ∧ w.cell? ⟨g, o + k * 4 + 1, none⟩ = some a ∧ w.cell? ⟨g, o + k * 4 + 2, none⟩ = some b ∧ w.cell? ⟨g, o + k * 4 + 3, none⟩ = some (.string (bs t.kids[k].text)) ∧ NodeX X w t.kids[k] a b ∧ ∃ a1 a2 a3 a4, a = .slice a1 t.kids[k].attrs.length a2 ∧ b = .slice a3 t.kids[k].kids.length a4 := by
 obtain ⟨L, his, -, ho, hn⟩ := h.parts
 obtain ⟨ao, cap, h1, h2, h3, h4, h5⟩ := ho
 have hl : L.length = t.kids.length := by rw [← his]; simp
 refine ⟨ao, cap, by rw [h1, hl], by omega, fun k hk => ?_⟩
 have hkL : k < L.length := by omega
 obtain ⟨g, o, e1, e2, e2', e3⟩ := h5 k L[k] (List.getElem?_eq_getElem hkL)
 have hkid : t.kids[k] = L[k].1 := by
  have : (L.map (·.1))[k]'(by simpa using hkL) = L[k].1 := by simp
  rw [← this]
  congr 1
  exact his.symm
 have hnk := hn _ (List.getElem_mem hkL)
 refine ⟨g, o, L[k].2.1, L[k].2.2, e1, e2, e2', ?_, e3 1 _ rfl, e3 2 _ rfl, ?_, ?_, ?_⟩
 · rw [hkid]; simpa using e3 0 _ rfl
 · rw [hkid]; exact e3 3 _ rfl
 · rw [hkid]; exact hnk
 · rw [hkid]
   obtain ⟨a1, a2, e1⟩ := hnk.att.shape
   obtain ⟨a3, a4, e2, -⟩ := hnk.kid
   exact ⟨a1, a2, a3, a4, e1, e2⟩

end Go.Proofs.YtphaeegbmfpcgaaGreatDoor

/- Walks of functions that go through a tree's kids: Light, both Counts, Depth; their conditions stand in the theorems. -/

namespace Go.Proofs.YtphaeegbmfpcgaaGreatDoor
open Go Go.RowKit

/-- A kid's cells, its slices written out. -/
theorem NodeX.at {X : Nat → Prop} {w : World} {t : Tr} {av : Value} {ko : Option Addr} {m kc : Nat} (h : NodeX X w t av (.slice ko m kc)) (k : Nat) (hk : k < t.kids.length) : ∃ g o a1 a2 a3 a4, ko = some ⟨g, o, none⟩ ∧ g < w.heap.size ∧ ¬ X g ∧ w.cell? ⟨g, o + k * 4, none⟩ = some (.string (bs t.kids[k].name)) ∧ w.cell? ⟨g, o + k * 4 + 1, none⟩ = some (.slice a1 t.kids[k].attrs.length a2) ∧ w.cell? ⟨g, o + k * 4 + 2, none⟩ = some (.slice a3 t.kids[k].kids.length a4) ∧ w.cell? ⟨g, o + k * 4 + 3, none⟩ = some (.string (bs t.kids[k].text)) ∧ NodeX X w t.kids[k] (.slice a1 t.kids[k].attrs.length a2) (.slice a3 t.kids[k].kids.length a4) := by
 obtain ⟨ao, cap, e, -, h2⟩ := h.kid2
 simp only [Value.slice.injEq] at e
 obtain ⟨rfl, -, -⟩ := e
 obtain ⟨g, o, a, b, h3, h4, h5, h6, h7, h8, h9, h10, a1, a2, a3, a4, rfl, rfl⟩ := h2 k hk
 exact ⟨g, o, a1, a2, a3, a4, h3, h4, h5, h6, h7, h8, h9, h10⟩
theorem NodeX.shape {X : Nat → Prop} {w : World} {t : Tr} {av kv : Value} (h : NodeX X w t av kv) : ∃ ao ac ko kc, av = .slice ao t.attrs.length ac ∧ kv = .slice ko t.kids.length kc ∧ t.attrs.length ≤ 9223372036854775807 ∧ t.kids.length ≤ 9223372036854775807 := by
 obtain ⟨ao, ac, e1, h1, h2, -⟩ := h.att
 obtain ⟨ko, kc, e2, h3, -⟩ := h.kid2
 unfold maxLen at h2 h3
 exact ⟨ao, ac, ko, kc, e1, e2, by omega, by omega⟩

end Go.Proofs.YtphaeegbmfpcgaaGreatDoor

/- Walks of the tree's Attr, Kids and Text; their conditions stand in the theorems. -/

namespace Go.Proofs.YtphaeegbmfpcgaaGreatDoor
open Go Go.RowKit

/-- Is this a kid that is asked for? -/
def isKid (m : Bs) (t : Tr) : Bool := !t.name.isEmpty && (m.isEmpty || decide (t.name = m))
def kidsF (m : Bs) (l : List Tr) : List Tr := l.filter (isKid m)
/-- The texts' letters. -/
def textF : List Tr → Bs
 | [] => []
 | t :: l => (if t.name.isEmpty then t.text else []) ++ textF l
theorem kidsF_take {m : Bs} {l : List Tr} {k : Nat} (h : k < l.length) : kidsF m (l.take (k + 1)) = kidsF m (l.take k) ++ if isKid m l[k] then [l[k]] else [] := by
 unfold kidsF
 rw [List.take_succ_eq_append_getElem h, List.filter_append]
 congr 1
 by_cases hk : isKid m l[k] = true
 · simp [hk]
 · simp [hk]
theorem textF_append : ∀ (l r : List Tr), textF (l ++ r) = textF l ++ textF r
 | [], r => by simp [textF]
 | t :: l, r => by rw [List.cons_append, textF, textF, textF_append l r, List.append_assoc]
theorem textF_take {l : List Tr} {k : Nat} (h : k < l.length) : textF (l.take (k + 1)) = textF (l.take k) ++ if l[k].name.isEmpty then l[k].text else [] := by
 rw [List.take_succ_eq_append_getElem h, textF_append]; simp [textF]
theorem textF_take_le : ∀ (l : List Tr) (k : Nat), (textF (l.take k)).length ≤ (textF l).length
 | [], k => by simp
 | t :: l, 0 => by simp [textF]
 | t :: l, k + 1 => by have := textF_take_le l k; simp only [List.take_succ_cons, textF, List.length_append]; omega
/-- A list of nodes that a call has collected. -/
structure Coll (B : Nat) (w wr : World) (v : Value) (L : List TrV) : Prop where
 below : Below B w wr
 own : Owns B 110 4 trC wr v L
 nodes : ∀ y ∈ L, NodeX (fun j => B ≤ j) wr y.1 y.2.1 y.2.2
/-- The same, of nodes that lie outside of some blocks besides. -/
structure CollX (X : Nat → Prop) (B : Nat) (w wr : World) (v : Value) (L : List TrV) : Prop where
 below : Below B w wr
 own : Owns B 110 4 trC wr v L
 nodes : ∀ y ∈ L, NodeX (fun j => X j ∨ B ≤ j) wr y.1 y.2.1 y.2.2
theorem CollX.coll {X : Nat → Prop} {B : Nat} {w wr : World} {v : Value} {L : List TrV} (h : CollX X B w wr v L) : Coll B w wr v L :=
 ⟨h.below, h.own, fun y hy => (h.nodes y hy).keep (KeptX.refl _ _) (fun _ _ h => .inr h)⟩
theorem CollX.alloc {X : Nat → Prop} {B : Nat} {w wr : World} {v : Value} {L : List TrV} (h : CollX X B w wr v L) (hB : B ≤ wr.heap.size) (o : Obj) : CollX X B w (wr.alloc o) v L :=
 ⟨h.below.alloc hB o, h.own.alloc o, fun y hy => (h.nodes y hy).later ((Below.refl _ _).alloc (Nat.le_refl _) _)⟩
theorem CollX.push {X : Nat → Prop} {B : Nat} {w wr w8 : World} {v v8 : Value} {L : List TrV} {y : TrV} (h : CollX X B w wr v L) (hy : NodeX (fun j => X j ∨ B ≤ j) wr y.1 y.2.1 y.2.2) (ho : Owns B 110 4 trC w8 v8 (L ++ [y])) (hg : wr.grownBy w8 v.ownBlock) (hB : B ≤ wr.heap.size) : CollX X B w w8 v8 (L ++ [y]) := by
 have hX : ∀ g, v.ownBlock = some g → B ≤ g := fun g e => (h.own.rowOf e).1
 have hk : KeptX (fun j => X j ∨ B ≤ j) wr w8 := KeptX.grown hg (fun g e => .inr (hX g e))
 have hb : Below B wr w8 := ⟨hg.os, hg.tape, hg.output, by have := hg.size; omega, fun k hk => hg.block k (by omega) (fun e => by have := hX k e.symm; omega)⟩
 refine ⟨h.below.trans hb, ho, fun z hz => ?_⟩
 rcases List.mem_append.1 hz with hz | hz
 · exact (h.nodes z hz).keep hk (fun _ _ h => h)
 · obtain rfl := List.mem_singleton.1 hz
   exact hy.keep hk (fun _ _ h => h)
/-- The literal of one node. -/
theorem lit_one (y : TrV) (W : World) (H : Nat) (hH : W.heap.size = H) : SliceOf 4 trC (W.alloc (.cells (trC y).toArray 110)) (.slice (some ⟨H, 0, none⟩) 1 1) [y] := by
 have h := sliceLit trC_len W [y] 110 H 1 hH rfl (by unfold maxLen; simp)
 simpa using h
theorem one_one (t : Tr) (a1 a3 : Option Addr) (l1 l3 a2 a4 : Nat) : ∀ y ∈ [((t, .slice a1 l1 a2, .slice a3 l3 a4) : TrV)], ∀ u ∈ trC y, u.oneCell' = true := by
 intro y hy u hu
 obtain rfl := List.mem_singleton.1 hy
 simp only [trC, nodeC, List.mem_cons, List.not_mem_nil, or_false] at hu
 rcases hu with rfl | rfl | rfl | rfl <;> rfl
theorem filter_len (m : Bs) (l : List Tr) (k : Nat) : (kidsF m (l.take k)).length ≤ k := by
 have h1 := List.length_filter_le (isKid m) (l.take k)
 have h2 : (l.take k).length ≤ k := List.length_take_le _ _
 unfold kidsF; omega
set_option maxRecDepth 100000 in
set_option maxHeartbeats 8000000 in
theorem kids_x {X : Nat → Prop} (t : Tr) (m : Bs) (w : World) (av kv : Value) (ht : NodeX X w t av kv) (hkl : t.kids.length ≤ 100000) :
    Calls Tryz.prog 129 #[nodeV t av kv, .string (bs m)] w fun e w' => ∃ v L, e = .returned v ∧ L.map (·.1) = kidsF m t.kids ∧ CollX X w.heap.size w w' v L := by
 obtain ⟨ao, ac, ko, kc, rfl, rfl, hal, -⟩ := ht.shape
 have HT := Lib.hid ht
 clear ht
 unfold nodeV
 go_enter Tryz.func129, Tryz.ntmps129
 go_wp2
 go_loopw [4, 10] (fun v i wr => ∃ (k : Nat) (L : List TrV) (v' : Value), k ≤ t.kids.length ∧ i = .int .i64 k ∧ v = v' ∧ Hid (w.heap.size < wr.heap.size ∧ CollX X w.heap.size w wr v' L ∧ L.map (·.1) = kidsF m (t.kids.take k))) (fun _ i _ => t.kids.length - (intOf i).toNat)
 case atStart => exact ⟨0, [], _, Nat.zero_le _, rfl, rfl, by simp, ⟨(Below.refl _ w).alloc (Nat.le_refl _) _, Owns.nil, by simp⟩, by simp [kidsF]⟩
 case round =>
  obtain ⟨k, L, v, hk, rfl, rfl, HR⟩ := hrel
  obtain ⟨la, lc, hlv⟩ := HR.out.2.1.own.shape
  subst hlv
  by_cases hlt : k < t.kids.length
  · obtain ⟨g, o, a1, a2, a3, a4, rfl, hg, -, c0, c1, c2, c3, hn1⟩ := (HT.out.later HR.out.2.1.below).at k hlt
    have hnX : NodeX (fun j => X j ∨ w.heap.size ≤ j) w t (.slice ao t.attrs.length ac) (.slice (some ⟨g, o, none⟩) t.kids.length kc) := HT.out.keep (KeptX.refl _ _) (fun k h1 h2 => h2.elim id (fun h => by omega))
    obtain ⟨g', o', b1, b2, b3, b4, e1, -, -, d0, d1, d2, d3, hn2⟩ := (hnX.keep (KeptX.below HR.out.2.1.below) (fun _ _ h => h)).at k hlt
    simp only [Option.some.injEq, Addr.mk.injEq, and_true] at e1
    obtain ⟨rfl, rfl⟩ := e1
    rw [c1] at d1
    rw [c2] at d2
    simp only [Option.some.injEq, Value.slice.injEq, true_and] at d1 d2
    obtain ⟨rfl, rfl⟩ := d1
    obtain ⟨rfl, rfl⟩ := d2
    have hki : (k : Int) < (t.kids.length : Int) := by omega
    have HD := Lib.hid (kidsF_take (m := m) hlt)
    have HC := Lib.hid (fun o => HR.out.2.1.alloc (Nat.le_of_lt HR.out.1) o)
    have HZ := Lib.hid (fun o => (show w.heap.size < (wr.alloc o).heap.size by have := HR.out.1; simp; omega))
    have HN := Lib.hid hn2
    have hE := bs_beq2 t.kids[k].name m
    have hLl : L.length ≤ k := by
     have h1 := filter_len m t.kids k
     rw [← HR.out.2.2] at h1
     simpa using h1
    clear d0 d3 hn1 hn2 hnX
    by_cases hne : t.kids[k].name = []
    · have he : (bs t.kids[k].name : S).toList.isEmpty = true := by rw [empty_data, bs_size, hne]; rfl
      have he2 : (!(bs t.kids[k].name : S).toList.isEmpty) = false := by rw [he]; rfl
      have hik : isKid m t.kids[k] = false := by unfold isKid; rw [hne]; rfl
      rw [hik] at HD
      clear hne hE hik
      go_wp2
      go_roundw
      case rel => exact ⟨k + 1, L, _, hlt, by go_num, rfl, HZ.out _, HC.out _, by rw [HD.out, HR.out.2.2]; simp⟩
      case measure => simp [intOf]; omega
    · have he : (bs t.kids[k].name : S).toList.isEmpty = false := by rw [empty_data, bs_size]; simpa using hne
      have he2 : (!(bs t.kids[k].name : S).toList.isEmpty) = true := by rw [he]; rfl
      have hkE : t.kids[k].name.isEmpty = false := by simpa using hne
      have hmE : (bs m : S).toList.isEmpty = m.isEmpty := by rw [empty_data, bs_size]; cases m <;> simp
      have hik : isKid m t.kids[k] = (m.isEmpty || decide (t.kids[k].name = m)) := by unfold isKid; rw [hkE]; rfl
      clear hne
      have hcs : (isKid m t.kids[k] = false ∧ (bs m : S).toList.isEmpty = false ∧ ((bs t.kids[k].name : S).toList == (bs m : S).toList) = false) ∨ (isKid m t.kids[k] = true ∧ (bs m : S).toList.isEmpty = true) ∨ (isKid m t.kids[k] = true ∧ (bs m : S).toList.isEmpty = false ∧ ((bs t.kids[k].name : S).toList == (bs m : S).toList) = true) := by
       rw [hik, hmE, hE]
       cases m.isEmpty <;> cases decide (t.kids[k].name = m) <;> simp
      clear hik hmE hE hkE
      rcases hcs with ⟨hik, hm1, hE⟩ | hcs
      · rw [hik] at HD
        clear hik
        go_wp2
        go_roundw
        case rel => exact ⟨k + 1, L, _, hlt, by go_num, rfl, HZ.out _, HC.out _, by rw [HD.out, HR.out.2.2]; simp⟩
        case measure => simp [intOf]; omega
      · have hikt : isKid m t.kids[k] = true := by rcases hcs with ⟨h, -⟩ | ⟨h, -⟩ <;> exact h
        rw [hikt] at HD
        have HOO : Hid (∀ o o2, Owns w.heap.size 110 4 trC ((wr.alloc o).alloc o2) (.slice la L.length lc) L) := fun o o2 => ((HC.out o).own).alloc o2
        have HFI : Hid (∀ o o2 v8 w8, Owns w.heap.size 110 4 trC w8 v8 (L ++ [(t.kids[k], .slice a1 t.kids[k].attrs.length a2, .slice a3 t.kids[k].kids.length a4)]) → ((wr.alloc o).alloc o2).grownBy w8 (Value.slice la L.length lc).ownBlock → w.heap.size < w8.heap.size ∧ CollX X w.heap.size w w8 v8 (L ++ [(t.kids[k], .slice a1 t.kids[k].attrs.length a2, .slice a3 t.kids[k].kids.length a4)])) := fun o o2 v8 w8 h1 h2 =>
         ⟨by have := h2.size; have := HZ.out o; simp at *; omega, ((HC.out o).alloc (Nat.le_of_lt (HZ.out o)) o2).push ((HN.out.later ((Below.refl _ _).alloc (Nat.le_refl _) _)).later ((Below.refl _ _).alloc (Nat.le_refl _) _)) h1 h2 (by have := HZ.out o; simp at *; omega)⟩
        have HSZ2 : Hid (∀ o o2, w.heap.size ≤ ((wr.alloc o).alloc o2).heap.size) := fun o o2 => by have := HZ.out o; simp at *; omega
        have HBY : Hid (∀ y : TrV, (L.length + [y].length) * 80 ≤ 140737488355328) := fun y => by simp only [List.length_cons, List.length_nil]; omega
        have HLL := Lib.hid hLl
        have HIS := Lib.hid HR.out.2.2
        have hCS : ((bs m : S).toList.isEmpty = true) ∨ ((bs m : S).toList.isEmpty = false ∧ ((bs t.kids[k].name : S).toList == (bs m : S).toList) = true) := by
         rcases hcs with ⟨-, h⟩ | ⟨-, h⟩
         · exact .inl h
         · exact .inr h
        clear hcs hikt HR HT HN HC HZ hLl
        generalize hkk : t.kids[k] = y at *
        obtain ⟨yn, ya, yk, yx⟩ := y
        simp only [Tr.name, Tr.attrs, Tr.kids, Tr.text] at *
        rcases hCS with hm1 | ⟨hm1, hE⟩
        all_goals
         go_wp2_with (at_builtin; go_loud ((refine wpList_append_slice _ rfl _ _ 108 rfl w.heap.size 110 Tryz.underlying108 info_node rfl (by decide) trC_len (.slice la L.length lc) L rfl (HOO.out _ _) _ [((.mk yn ya yk yx, .slice a1 ya.length a2, .slice a3 yk.length a4) : TrV)] rfl (lit_one (.mk yn ya yk yx, .slice a1 ya.length a2, .slice a3 yk.length a4) _ _ (by simp)) (one_one _ _ _ _ _ _ _) (HBY.out _) (by decide) (HSZ2.out _ _) ?_; intro v8 w8 hown8 hgrow8 hloc8; have HP8 := Lib.hid (HFI.out _ _ _ _ hown8 hgrow8); clear hown8 hgrow8 hloc8)))
         go_wp2
         go_roundw
         case rel => exact ⟨k + 1, _, _, hlt, by go_num, rfl, HP8.out.1, HP8.out.2, by rw [HD.out, List.map_append, HIS.out]; rfl⟩
         case measure => simp [intOf]; omega
  · obtain rfl : k = t.kids.length := by omega
    have HF : Hid (L.map (·.1) = kidsF m t.kids) := by show _ = _; rw [HR.out.2.2, List.take_length]
    go_wp2
    go_ret
    exact ⟨_, L, rfl, HF.out, HR.out.2.1⟩
theorem kids_any (t : Tr) (m : Bs) (w : World) (av kv : Value) (ht : NodeOf w t av kv) (hkl : t.kids.length ≤ 100000) :
    Calls Tryz.prog 129 #[nodeV t av kv, .string (bs m)] w fun e w' => ∃ v L, e = .returned v ∧ L.map (·.1) = kidsF m t.kids ∧ Coll w.heap.size w w' v L :=
 (kids_x t m w av kv ht hkl).mono fun _ _ ⟨v, L, h1, h2, h3⟩ => ⟨v, L, h1, h2, h3.coll⟩
set_option maxRecDepth 100000 in
set_option maxHeartbeats 8000000 in
theorem text_any (t : Tr) (w : World) (av kv : Value) (ht : NodeOf w t av kv) (hx : (textF t.kids).length ≤ 1000000000) :
    Calls Tryz.prog 167 #[nodeV t av kv] w fun e w' => e = .returned (.string (bs (trimB (textF t.kids)))) ∧ Below w.heap.size w w' := by
 obtain ⟨ao, ac, ko, kc, rfl, rfl, -, hkl⟩ := ht.shape
 have HT := Lib.hid ht
 have HX := Lib.hid hx
 clear ht hx
 unfold nodeV
 go_enter Tryz.func167, Tryz.ntmps167
 go_wp2
 go_loopw [3, 9] (fun a i wr => ∃ (k : Nat) (s : S), k ≤ t.kids.length ∧ i = .int .i64 k ∧ a = .string s ∧ Hid (Below w.heap.size w wr ∧ s = bs (textF (t.kids.take k)))) (fun _ i _ => t.kids.length - (intOf i).toNat)
 case atStart => exact ⟨0, ⟨#[]⟩, Nat.zero_le _, rfl, rfl, (Below.refl _ w).alloc (Nat.le_refl _) _, by simp [textF]; rfl⟩
 case round =>
  obtain ⟨k, s, hk, rfl, rfl, HR⟩ := hrel
  by_cases hlt : k < t.kids.length
  · obtain ⟨g, o, a1, a2, a3, a4, rfl, hg, -, c0, c1, c2, c3, -⟩ := (HT.out.later HR.out.1).at k hlt
    have hki : (k : Int) < (t.kids.length : Int) := by omega
    have HD := Lib.hid (textF_take hlt)
    have HB := Lib.hid (fun o => HR.out.1.alloc HR.out.1.size o)
    by_cases hne : t.kids[k].name = []
    · have he : (bs t.kids[k].name : S).toList.isEmpty = true := by rw [empty_data, bs_size, hne]; rfl
      have hkE : t.kids[k].name.isEmpty = true := by rw [hne]; rfl
      rw [hkE] at HD
      obtain ⟨X, hX⟩ : ∃ X : S, X = bs t.kids[k].text := ⟨_, rfl⟩
      rw [← hX] at c3
      have HS : Hid (s ++ X = bs (textF (t.kids.take (k + 1)))) := by show _ = _; rw [HR.out.2, hX, bs_append, HD.out]; rfl
      have hsz : ¬ 9223372036854775807 < s.size + X.size := by
       have h1 := textF_take_le t.kids (k + 1)
       have h2 := HX.out
       have h3 : (s ++ X).size = (textF (t.kids.take (k + 1))).length := by rw [HS.out, bs_size]
       have h4 : (s ++ X).size = s.size + X.size := by simp
       omega
      clear hne hX hkE HD
      go_wp2
      go_roundw
      case rel => exact ⟨k + 1, s ++ X, hlt, by go_num, rfl, HB.out _, HS.out⟩
      case measure => simp [intOf]; omega
    · have he : (bs t.kids[k].name : S).toList.isEmpty = false := by rw [empty_data, bs_size]; simpa using hne
      have hkE : t.kids[k].name.isEmpty = false := by simpa using hne
      rw [hkE] at HD
      have HS : Hid (s = bs (textF (t.kids.take (k + 1)))) := by show _ = _; rw [HD.out, HR.out.2]; simp
      clear hne hkE HD
      go_wp2
      go_roundw
      case rel => exact ⟨k + 1, s, hlt, by go_num, rfl, HB.out _, HS.out⟩
      case measure => simp [intOf]; omega
  · obtain rfl : k = t.kids.length := by omega
    have hs : s = bs (textF t.kids) := by have := HR.out.2; rwa [List.take_length] at this
    have HTR := Lib.hid (trim_any s wr (by rw [hs, bs_size]; exact HX.out))
    have HS : Hid (s.data.toList = textF t.kids) := by show _ = _; rw [hs]; rfl
    clear hs
    go_wp2_with fail
    refine HTR.out.mono ?_
    rintro e w4 ⟨x, rfl, hx, rfl⟩
    have HX : Hid (x = bs (trimB (textF t.kids))) := by show _ = _; rw [← HS.out, ← hx, data_bs]
    clear hx
    go_wp2
    go_ret
    exact ⟨by rw [← HX.out]; rfl, HR.out.1⟩

end Go.Proofs.YtphaeegbmfpcgaaGreatDoor

/- Pins, locks, edits; which ids, versions, Keys may be; the order of Keys; no program in sight. -/
namespace Go.Proofs.YtphaeegbmfpcgaaGreatDoor
open Go Go.RowKit

def idByte (c : UInt8) : Bool := (decide (97 ≤ c.toNat) && decide (c.toNat ≤ 122)) || (decide (65 ≤ c.toNat) && decide (c.toNat ≤ 90)) || (decide (48 ≤ c.toNat) && decide (c.toNat ≤ 57)) || c.toNat == 46 || c.toNat == 45 || c.toNat == 95
def verByte (c : UInt8) : Bool := idByte c || c.toNat == 43
theorem idByte_iff {c : UInt8} : idByte c = true ↔ (97 ≤ c.toNat ∧ c.toNat ≤ 122) ∨ (65 ≤ c.toNat ∧ c.toNat ≤ 90) ∨ (48 ≤ c.toNat ∧ c.toNat ≤ 57) ∨ c.toNat = 46 ∨ c.toNat = 45 ∨ c.toNat = 95 := by
 simp [idByte, or_assoc]
theorem verByte_iff {c : UInt8} : verByte c = true ↔ (97 ≤ c.toNat ∧ c.toNat ≤ 122) ∨ (65 ≤ c.toNat ∧ c.toNat ≤ 90) ∨ (48 ≤ c.toNat ∧ c.toNat ≤ 57) ∨ c.toNat = 46 ∨ c.toNat = 45 ∨ c.toNat = 95 ∨ c.toNat = 43 := by
 simp [verByte, idByte, or_assoc]
theorem idByte_no {c : UInt8} (h : idByte c = false) : ¬ ((97 ≤ c.toNat ∧ c.toNat ≤ 122) ∨ (65 ≤ c.toNat ∧ c.toNat ≤ 90) ∨ (48 ≤ c.toNat ∧ c.toNat ≤ 57) ∨ c.toNat = 46 ∨ c.toNat = 45 ∨ c.toNat = 95) := by
 rw [← idByte_iff, h]; simp
theorem verByte_no {c : UInt8} (h : verByte c = false) : ¬ ((97 ≤ c.toNat ∧ c.toNat ≤ 122) ∨ (65 ≤ c.toNat ∧ c.toNat ≤ 90) ∨ (48 ≤ c.toNat ∧ c.toNat ≤ 57) ∨ c.toNat = 46 ∨ c.toNat = 45 ∨ c.toNat = 95 ∨ c.toNat = 43) := by
 rw [← verByte_iff, h]; simp
def isIdB (s : S) : Bool := s.data.toList.all idByte && decide (1 ≤ s.size) && decide (s.size ≤ 64)
def verMay (s : S) : Bool := s.data.toList.all verByte && decide (1 ≤ s.size) && decide (s.size ≤ 64)
def gavMay (g : Gav) : Bool := isIdB g.group && isIdB g.artifact && verMay g.version

end Go.Proofs.YtphaeegbmfpcgaaGreatDoor

/- Texts of locks: pieces, numbers, words, which text is which lock or which line is wrong; no program in sight. -/
namespace Go.Proofs.YtphaeegbmfpcgaaGreatDoor
open Go Go.RowKit

def scopeN (d : Bs) : Int :=
 if d = [99, 111, 109, 112, 105, 108, 101] then 1 else if d = [114, 117, 110, 116, 105, 109, 101] then 2 else if d = [112, 114, 111, 118, 105, 100, 101, 100] then 3
 else if d = [115, 121, 115, 116, 101, 109] then 4 else if d = [116, 101, 115, 116] then 5 else 0

end Go.Proofs.YtphaeegbmfpcgaaGreatDoor
