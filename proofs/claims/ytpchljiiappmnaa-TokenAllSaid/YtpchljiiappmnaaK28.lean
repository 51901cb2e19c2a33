/- The walk of All where the text is not too great; its conditions stand in the theorem. -/
import Derived.Test.YtpchljiiappmnaaK27b
namespace Go.Proofs.Ytpchljiiappmnaa
open Go Go.RowKit

/-- What the loop over the text has done so far. -/
structure Alls (w wr : World) (s : S) (l : Bs) (ov : Value) (L : List TkM) (acc : List (Tk × Bs)) (f : Nat) : Prop where
  toks : Toks wr (w.heap.size + 4) s l ov L
  vars : Vars wr w.heap.size s (.slice none 0 0) (.int .i64 0) (.int .i64 0) (.int .i64 0) (.int .i64 0)
  below : Below w.heap.size w wr
  spec : allR s.data.toList = allGo f (decide (pos s l = 0)) acc l
  fuel : l.length ≤ f
  same : L.map (fun x => (x.t, x.off, x.line, x.col)) = acc.map (fun p => (p.1, (pos s p.2 : Int), (0 : Int), (0 : Int)))
  falls : Falls s.data.toList acc l
  num : L.length + l.length ≤ s.size

theorem Alls.drewN {w wr : World} {s : S} {l : Bs} {ov : Value} {L : List TkM} {acc : List (Tk × Bs)} {f : Nat} (h : Alls w wr s l ov L acc f) (n : Nat) : Alls w (wr.drewN n) s l ov L acc f :=
  ⟨h.toks.kept (grownN _ _ _) (h.toks.rd.drewN n), h.vars.below (belowN (Below.refl _ _) n), belowN h.below n, h.spec, h.fuel, h.same, h.falls, h.num⟩

theorem Alls.next {w wr w2 : World} {s : S} {l r : Bs} {ov ov2 av : Value} {L : List TkM} {acc : List (Tk × Bs)} {f : Nat} {t : Tk} (h : Alls w wr s l ov L acc f) (hl : l ≠ []) (ht : tokenR (decide (pos s l = 0)) l = .ok t r)
    (hT : Toks w2 (w.heap.size + 4) s r ov2 (L ++ [⟨t, av, pos s l, 0, 0⟩])) (hb : Below (w.heap.size + 4) wr w2) : Alls w w2 s r ov2 (L ++ [⟨t, av, pos s l, 0, 0⟩]) (acc ++ [(t, l)]) (f - 1) := by
  have hlt := tokenR_less ht hl
  have hsuf := suf_of_ok (tokenR_suf _ l) ht
  have hpos : 0 < l.length := List.length_pos_iff.2 hl
  obtain ⟨f', rfl⟩ : ∃ f', f = f' + 1 := ⟨f - 1, by have := h.fuel; omega⟩
  refine ⟨hT, h.vars.belowB hb (by omega), h.below.trans (hb.mono (by omega)), ?_, ?_, ?_, h.falls.snoc h.toks.rd.suf hsuf hlt t, ?_⟩
  · rw [h.spec]
    cases l with
    | nil => exact absurd rfl hl
    | cons c l =>
      simp only [allGo]
      rw [ht]
      simp only [Nat.add_sub_cancel]
      have : decide (pos s r = 0) = false := by
        have h1 := pos_add h.toks.rd.suf
        have h2 := pos_add hT.rd.suf
        simp; omega
      rw [this]
  · have := h.fuel; omega
  · rw [List.map_append, List.map_append, h.same]; rfl
  · have := h.num; rw [List.length_append, List.length_singleton]; omega

theorem Alls.bad {w wr : World} {s : S} {l r : Bs} {ov : Value} {L : List TkM} {acc : List (Tk × Bs)} {f : Nat} {x : Int} (h : Alls w wr s l ov L acc f) (hl : l ≠ []) (ht : tokenR (decide (pos s l = 0)) l = .bad x r) : allR s.data.toList = .bad x r := by
  have hpos : 0 < l.length := List.length_pos_iff.2 hl
  obtain ⟨f', rfl⟩ : ∃ f', f = f' + 1 := ⟨f - 1, by have := h.fuel; omega⟩
  rw [h.spec]
  cases l with
  | nil => exact absurd rfl hl
  | cons c l => simp only [allGo]; rw [ht]
theorem Alls.done {w wr : World} {s : S} {ov : Value} {L : List TkM} {acc : List (Tk × Bs)} {f : Nat} (h : Alls w wr s [] ov L acc f) : allR s.data.toList = .ok acc [] := by
  rw [h.spec]; cases f <;> rfl

theorem Alls.start {w W : World} {s : S} (hx : Box W (w.heap.size + 4) [.string s, .int .i64 0, .slice none 0 0]) (hV : Vars W w.heap.size s (.slice none 0 0) (.int .i64 0) (.int .i64 0) (.int .i64 0) (.int .i64 0)) (hb : Below w.heap.size w W) :
    Alls w W s s.data.toList (.slice none 0 0) [] [] s.size := by
  have hp : pos s s.data.toList = 0 := by unfold pos; rw [size_data]; omega
  refine ⟨⟨⟨by rw [hp]; exact hx, List.suffix_refl _⟩, Owns.nil, by simp⟩, hV, hb, ?_, by rw [size_data]; exact Nat.le_refl _, rfl, Falls.nil _ _, by simp⟩
  rw [hp]; unfold allR; rw [size_data]; rfl

/-- The places of the tokens lie in the text and rise. -/
theorem Alls.rises {w wr : World} {s : S} {ov : Value} {L : List TkM} {acc : List (Tk × Bs)} {f : Nat} (h : Alls w wr s [] ov L acc f) :
    (∀ j (hj : j < L.length), ∃ o : Nat, L[j].off = o ∧ o < s.size) ∧ ∀ i j (hi : i < j) (hj : j < L.length), L[i].off ≤ L[j].off := by
  have hlen : L.length = acc.length := by have := congrArg List.length h.same; simpa using this
  have hoff : ∀ j (hj : j < L.length), L[j].off = (pos s (acc[j]'(by omega)).2 : Int) := fun j hj => by
    have := congrArg (·[j]?) h.same
    simp only [List.getElem?_map, List.getElem?_eq_getElem hj, List.getElem?_eq_getElem (show j < acc.length by omega), Option.map_some, Option.some.injEq, Prod.mk.injEq] at this
    exact this.2.1
  refine ⟨fun j hj => ⟨_, hoff j hj, ?_⟩, fun i j hi hj => ?_⟩
  · obtain ⟨-, h2, h3⟩ := h.falls.2 (acc[j]'(by omega)) (List.getElem_mem _)
    have := pos_add h3
    simp at h2; omega
  · rw [hoff i (by omega), hoff j hj]
    have h1 := List.pairwise_iff_getElem.1 h.falls.1 i j (by omega) (by omega) hi
    obtain ⟨-, -, h3⟩ := h.falls.2 (acc[i]'(by omega)) (List.getElem_mem _)
    obtain ⟨-, -, h4⟩ := h.falls.2 (acc[j]'(by omega)) (List.getElem_mem _)
    have := pos_add h3
    have := pos_add h4
    have := h1.2
    omega

theorem Alls.places {w wr : World} {s : S} {l : Bs} {ov : Value} {L : List TkM} {acc : List (Tk × Bs)} {f : Nat} (h : Alls w wr s l ov L acc f) :
    (L.map (fillT s)).map (fun x => (x.t, x.off, x.line, x.col)) = acc.map (fun p => (p.1, (pos s p.2 : Int), ((lineCol (s.data.toList.take (pos s p.2))).1 : Int), ((lineCol (s.data.toList.take (pos s p.2))).2 : Int))) := by
  have h1 := congrArg (List.map (fun q : Tk × Int × Int × Int => (q.1, q.2.1, ((lineCol (s.data.toList.take q.2.1.toNat)).1 : Int), ((lineCol (s.data.toList.take q.2.1.toNat)).2 : Int)))) h.same
  rw [List.map_map, List.map_map] at h1
  rw [List.map_map]
  refine Eq.trans ?_ (h1.trans ?_)
  · rfl
  · rfl

theorem own_stored {α : Type} {base E n : Nat} {C : α → List Value} {W : World} {B : Nat} {v : Value} {l : List α} (h : Owns base E n C W v l) (hB : B + 3 < base) (u1 u2 q0 q1 q2 : Value) : Owns base E n C (((((W.setCell ⟨B + 1, 0, none⟩ u1).setCell ⟨B + 2, 0, none⟩ u2).setCell ⟨B + 3, 0, none⟩ q0).setCell ⟨B + 3, 1, none⟩ q1).setCell ⟨B + 3, 2, none⟩ q2) v l :=
  ((((h.keptR (setCell_grown _ _ _ _) (by omega)).keptR (setCell_grown _ _ _ _) (by omega)).keptR (setCell_grown _ _ _ _) (by omega)).keptR (setCell_grown _ _ _ _) (by omega)).keptR (setCell_grown _ _ _ _) (by omega)

set_option maxRecDepth 100000 in
set_option maxHeartbeats 8000000 in
theorem all_small (s : S) (m : Int) (w : World) (hs : s.size ≤ 65536) (hm : w.cell? ⟨0, 0, none⟩ = some (.int .i64 m)) :
    Calls Try.prog 20 #[.string s] w (AllOut s w (allR s.data.toList)) := by
  have hsi : ¬ (65536 : Int) < (s.size : Int) := by omega
  have hw0 : 0 < w.heap.size := World.block_lt_of_cell? w _ hm
  have HM := Lib.hid hm
  clear hm
  have hmf : ∀ (fn : Fn) (first cap : Array Value) (w : World), (Instr.makeFunc fn first cap).run Try.prog w = .ok (.func fn first cap) w := fun _ _ _ _ => rfl
  go_enter_defers Try.func20, Try.ntmps20
  go_wp2
  refine wp_world ?_
  intro W hW
  have hV : Vars W w.heap.size s (.slice none 0 0) (.int .i64 0) (.int .i64 0) (.int .i64 0) (.int .i64 0) := by rw [hW]; exact (Vars.made w s).below ((Below.refl _ _).alloc (Nat.le_refl _) _)
  have hB : Below w.heap.size w W := by rw [hW]; exact (((((Below.refl _ _).alloc (Nat.le_refl _) _).alloc (by simp) _).alloc (by simp; omega) _).alloc (by simp; omega) _).alloc (by simp; omega) _
  have hx : Box W (w.heap.size + 4) [.string s, .int .i64 0, .slice none 0 0] := by rw [hW]; exact Box.new _ _ _ _ (by simp)
  have hA := Lib.hid (Alls.start hx hV hB)
  clear hW hV hB hx hmf
  go_loopw [] (fun wr => ∃ l ov L acc f, Alls w wr s l ov L acc f) (fun wr => s.size - (placeOf wr (w.heap.size + 4)).toNat)
  case atStart => exact ⟨_, _, _, _, _, hA.out⟩
  case round =>
    clear hA
    obtain ⟨l, ov, L, acc, f, hA⟩ := hrel
    have HA := Lib.hid hA
    have hm : wr.cell? ⟨0, 0, none⟩ = some (.int .i64 m) := (hA.below.cell (by simpa using hw0)).trans HM.out
    have hnum := hA.num
    have hlt4 := hA.toks.rd.box.lt
    clear hA
    by_cases hl : l = []
    · subst hl
      have HN : Hid (Calls Try.prog 53 #[.pointer (some ⟨w.heap.size + 4, 0, none⟩)] wr (Qt (.bool true) wr)) := ends_any (w.heap.size + 4) s [] ov wr HA.out.toks.rd
      obtain ⟨ao, cap, rfl⟩ := HA.out.toks.own.shape
      have c2 := HA.out.toks.rd.c2
      go_wp2_with fail
      refine HN.out.mono ?_
      rintro e w1 ⟨rfl, n, rfl⟩
      obtain ⟨hoff, hmono⟩ := HA.out.rises
      have HOF := Lib.hid hoff
      have HMO := Lib.hid hmono
      have hP : Places w (wr.drewN n) s ao cap L 0 := ⟨(HA.out.drewN n).toks.rd, (HA.out.drewN n).vars, (HA.out.drewN n).below, by simpa using (HA.out.drewN n).toks.own, by simpa using (HA.out.drewN n).toks.att⟩
      have HP := Lib.hid hP
      have hLm : L.length ≤ 65536 := by omega
      clear hoff hmono hP
      go_wp2
      clear c2
      go_loopw [6, 7, 8, 9, 32] (fun li ah _ _ i wr => ∃ k a : Nat, k ≤ L.length ∧ i = .int .i64 k ∧ a ≤ s.size ∧ ah = .int .i64 a ∧ li = .int .i64 (lineCol (s.data.toList.take a)).1 ∧ Hid (∀ j (hj : j < L.length), k ≤ j → (a : Int) ≤ L[j].off) ∧ Places w wr s ao cap L k) (fun _ _ _ _ i _ => L.length - (intOf i).toNat)
      case atStart => exact ⟨0, 0, Nat.zero_le _, rfl, Nat.zero_le _, rfl, by simp [lineCol], fun j hj _ => by obtain ⟨o, h1, -⟩ := HOF.out j hj; omega, HP.out⟩
      case round =>
        clear HP
        obtain ⟨k, a, hk, rfl, ha, rfl, rfl, HR, hP⟩ := hrel
        have HP := Lib.hid hP
        have hltP := hP.rd.box.lt
        have c2 := hP.rd.c2
        have cT := hP.vars.x0.cell 0 _ rfl
        clear hP
        by_cases hkl : k < L.length
        · have hlenM : ((L.take k).map (fillT s) ++ L.drop k).length = L.length := by simp; omega
          have hown : Owns (w.heap.size + 5) 34 7 tkC wr (.slice ao ((L.take k).map (fillT s) ++ L.drop k).length cap) ((L.take k).map (fillT s) ++ L.drop k) := by rw [hlenM]; exact HP.out.own
          obtain ⟨g, rfl, hg1, hg2, -, hf5, hcells, -⟩ := own_store (j := 5) tkC_len hown (fill_get hkl) (by decide)
          obtain ⟨g2, e2, -, -, -, hf6, -, -⟩ := own_store (j := 6) tkC_len hown (fill_get hkl) (by decide)
          cases e2
          have d4 := hcells 4 _ rfl
          have d5 : wr.cell? ⟨g, k * 7 + 4 + 1, none⟩ = some (.int .i64 L[k].line) := hcells 5 _ rfl
          have d6 : wr.cell? ⟨g, k * 7 + 4 + 2, none⟩ = some (.int .i64 L[k].col) := hcells 6 _ rfl
          have hf5' : wr.frozen? ⟨g, k * 7 + 4 + 1, none⟩ = false := hf5
          have hf6' : wr.frozen? ⟨g, k * 7 + 4 + 2, none⟩ = false := hf6
          obtain ⟨o, ho, hos⟩ := HOF.out k hkl
          have hao := HR.out k hkl (Nat.le_refl _)
          have hao2 : a ≤ o := by omega
          rw [ho] at d4
          have HOo := Lib.hid ho
          have hHN : Hid (∀ j (hj : j < L.length), k + 1 ≤ j → (o : Int) ≤ L[j].off) := fun j hj hkj => by
            rw [← HOo.out]; exact HMO.out k j (by omega) hj
          have hG := Lib.hid hg1
          clear hown hcells hlenM ho hao hg1 hf5 hf6
          generalize hl5 : L[k].line = l5 at *
          generalize hl6 : L[k].col = l6 at *
          clear hl5 hl6
          go_wp2
          go_loop [6, 7] (fun li ah => ∃ a' : Nat, a' ≤ o ∧ ah = .int .i64 a' ∧ li = .int .i64 (lineCol (s.data.toList.take a')).1) (fun _ ah => o - (intOf ah).toNat)
          case atStart => exact ⟨a, hao2, rfl, rfl⟩
          case round =>
            clear hao2 ha
            obtain ⟨a', ha', rfl, rfl⟩ := hrel
            have hb1 := (lineCol_pos (s.data.toList.take a')).2.2.1
            rw [List.length_take] at hb1
            have hb2 : (lineCol (s.data.toList.take a')).1 ≤ 65537 := by omega
            clear hb1
            by_cases hlt : a' < o
            · have has : a' < s.size := by omega
              have hsn : s.data.toList.take (a' + 1) = s.data.toList.take a' ++ [s[a']] := by
                rw [List.take_succ_eq_append_getElem (by rw [size_data]; exact has)]; rfl
              by_cases h10 : s[a'] = 10
              · have e1 : (((s[a'].toNat : Nat) : Int) == 10) = true := by rw [h10]; decide
                have HL : Hid ((lineCol (s.data.toList.take (a' + 1))).1 = (lineCol (s.data.toList.take a')).1 + 1) := by show _ = _; rw [hsn, lineCol_snoc, if_pos h10]
                clear hsn h10
                generalize (lineCol (s.data.toList.take a')).1 = li at *
                go_wp2
                go_round
                case rel => exact ⟨a' + 1, hlt, by go_num, by rw [HL.out]; go_num⟩
                case measure => simp [intOf]; omega
              · have e1 : (((s[a'].toNat : Nat) : Int) == 10) = false := by
                  rw [beq_eq_false_iff_ne]; intro e; exact h10 (UInt8.toNat_inj.1 (by simpa using (by omega : s[a'].toNat = 10)))
                have HL : Hid ((lineCol (s.data.toList.take (a' + 1))).1 = (lineCol (s.data.toList.take a')).1) := by show _ = _; rw [hsn, lineCol_snoc, if_neg h10]
                clear hsn h10
                generalize (lineCol (s.data.toList.take a')).1 = li at *
                go_wp2
                go_round
                case rel => exact ⟨a' + 1, hlt, by go_num, by rw [HL.out]⟩
                case measure => simp [intOf]; omega
            · obtain rfl : a' = o := by omega
              have hex : (s.extract 0 a').data.toList = s.data.toList.take a' := by rw [Lib.extract_data]; simp
              have hez : (s.extract 0 a').size = a' := by rw [← size_data, hex, List.length_take, size_data]; omega
              have HLI := Lib.hid (fun w => lastIndexByte_any (s.extract 0 a') w (by rw [hez]; omega))
              rw [hex, hez] at HLI
              have hb3 := (lineCol_pos (s.data.toList.take a')).2.2.2
              rw [List.length_take] at hb3
              have hb4 : (lineCol (s.data.toList.take a')).2 ≤ 65537 := by omega
              have HST := Lib.hid (HP.out.step hkl hG.out)
              have hfl : (fillT s L[k]).line = ((lineCol (s.data.toList.take a')).1 : Int) := by unfold fillT; rw [HOo.out, Int.toNat_natCast]
              have hfc : (fillT s L[k]).col = ((lineCol (s.data.toList.take a')).2 : Int) := by unfold fillT; rw [HOo.out, Int.toNat_natCast]
              rw [hfl, hfc] at HST
              clear hex hez hb3 hfl hfc
              have hi1 : a' ≤ s.size := by omega
              generalize hli : (lineCol (s.data.toList.take a')).1 = li at *
              generalize hco : (lineCol (s.data.toList.take a')).2 = co at *
              have HLL := Lib.hid hli
              clear hli hco
              go_wp2_with fail
              refine (HLI.out _).mono ?_
              rintro e w' ⟨rfl, rfl⟩
              go_wp2
              go_roundw
              case rel => exact ⟨k + 1, a', hkl, by go_num, hi1, rfl, by rw [HLL.out], hHN, by first | exact HST.out | (rw [show (a' : Int) - ((a' : Int) - (co : Int)) = (co : Int) by omega]; exact HST.out)⟩
              case measure => simp [intOf]; omega
        · obtain rfl : k = L.length := by omega
          have a1 := HP.out.vars.x1.cell 0 _ rfl
          have a2 := HP.out.vars.x2.cell 0 _ rfl
          have a3 := HP.out.vars.x3.cell 0 _ rfl
          have a4 := HP.out.vars.x3.cell 1 _ rfl
          have a5 := HP.out.vars.x3.cell 2 _ rfl
          have f1 := HP.out.vars.x1.free 0
          have f2 := HP.out.vars.x2.free 0
          have f3 := HP.out.vars.x3.free 0
          have f4 := HP.out.vars.x3.free 1
          have f5 := HP.out.vars.x3.free 2
          have l3 := HP.out.vars.x3.lt
          go_wp2
          have hV3 := HP.out.vars.store (.slice ao L.length cap) (.int .i64 0) (.int .i64 0) (.int .i64 0) (.int .i64 0)
          have hB3 := below_store HP.out.below (.slice ao L.length cap) (.int .i64 0) (.int .i64 0) (.int .i64 0) (.int .i64 0)
          have hO3 := own_stored (B := w.heap.size) HP.out.own (by omega) (.slice ao L.length cap) (.int .i64 0) (.int .i64 0) (.int .i64 0) (.int .i64 0)
          have hA3 := fun x hx => own_stored (B := w.heap.size) (HP.out.att x hx) (by omega) (.slice ao L.length cap) (.int .i64 0) (.int .i64 0) (.int .i64 0) (.int .i64 0)
          rw [List.take_length, List.drop_length, List.append_nil] at hO3 hA3
          clear a1 a2 a3 a4 a5 f1 f2 f3 f4 f5 l3 c2 cT
          generalize (((((wr.setCell ⟨w.heap.size + 1, 0, none⟩ (.slice ao L.length cap)).setCell ⟨w.heap.size + 2, 0, none⟩ (.int .i64 0)).setCell ⟨w.heap.size + 3, 0, none⟩ (.int .i64 0)).setCell ⟨w.heap.size + 3, 1, none⟩ (.int .i64 0)).setCell ⟨w.heap.size + 3, 2, none⟩ (.int .i64 0)) = W3 at *
          rw [HA.out.done]
          refine leaves_cons (f := 52) (args := #[.pointer (some ⟨w.heap.size, 0, none⟩), .pointer (some ⟨w.heap.size + 1, 0, none⟩), .pointer (some ⟨w.heap.size + 2, 0, none⟩), .pointer (some ⟨w.heap.size + 3, 0, none⟩)]) (by simp) (by simp [go_sem]) ?_
          refine (catch_idle _ _ _ _ W3).mono ?_
          rintro e u' w4 ⟨rfl, rfl, rfl⟩
          have a1 := hV3.x1.cell 0 _ rfl
          have a2 := hV3.x2.cell 0 _ rfl
          have a3 := hV3.x3.cell 0 _ rfl
          have a4 := hV3.x3.cell 1 _ rfl
          have a5 := hV3.x3.cell 2 _ rfl
          refine ⟨.tuple #[.slice ao L.length cap, .int .i64 0, zeroPlace], ?_, _, L.map (fillT s), rfl, ⟨hO3.base_mono (by omega), fun x hx => (hA3 x hx).base_mono (by omega), HA.out.places⟩, hB3⟩
          clear hV3 hB3 hO3 hA3
          simp [results, Try.results20, go_sem, a1, a2, a3, a4, a5, zeroPlace]
    · have HN : Hid (Calls Try.prog 53 #[.pointer (some ⟨w.heap.size + 4, 0, none⟩)] wr (Qt (.bool false) wr)) := by
        have := ends_any (w.heap.size + 4) s l ov wr HA.out.toks.rd
        rw [show l.isEmpty = false by cases l with | nil => exact absurd rfl hl | cons c r => rfl] at this; exact this
      have hcall := fun n => token_any (w.heap.size + 4) s l ov L m (wr.drewN n) (HA.out.drewN n).toks hs hm (by omega)
      have HL := Lib.hid hl
      clear hl
      cases ht : tokenR (decide (pos s l = 0)) l with
      | bad x r =>
        rw [ht] at hcall
        have HCL := Lib.hid hcall
        have HT := Lib.hid ht
        clear hcall ht
        go_wp2_with fail
        refine HN.out.mono ?_
        rintro e w1 ⟨rfl, n, rfl⟩
        go_wp2_with fail
        refine (HCL.out n).mono ?_
        intro e w2 hO
        obtain ⟨rfl, hb⟩ : e = .panicked [{ v := faultV x (pos s r), recovered := false }] ∧ Below (w.heap.size + 4) _ w2 := hO
        go_wp2
        rw [HA.out.bad HL.out HT.out]
        have hV2 := (HA.out.drewN n).vars.belowB hb (by omega)
        have hB2 := (HA.out.drewN n).below.trans (hb.mono (by omega))
        have hpr : pos s r ≤ s.size := by unfold pos; omega
        clear hb HCL HN
        refine leaves_cons (f := 52) (args := #[.pointer (some ⟨w.heap.size, 0, none⟩), .pointer (some ⟨w.heap.size + 1, 0, none⟩), .pointer (some ⟨w.heap.size + 2, 0, none⟩), .pointer (some ⟨w.heap.size + 3, 0, none⟩)]) (by simp) (by simp [go_sem]) ?_
        refine (catch_panicking w.heap.size s x (pos s r) [] _ _ _ _ _ w2 hpr (by omega) hV2.x0 hV2.x1 hV2.x2 hV2.x3).mono ?_
        rintro e u' w3 ⟨rfl, rfl, hx1, hx2, ⟨q0, q1, q2, hq, hx3⟩, hb3⟩
        have a1 := hx1.cell 0 _ rfl
        have a2 := hx2.cell 0 _ rfl
        have a3 := hx3.cell 0 _ rfl
        have a4 := hx3.cell 1 _ rfl
        have a5 := hx3.cell 2 _ rfl
        have hB3 := hB2.trans hb3
        clear hx1 hx2 hx3 hb3 hB2 hV2
        refine ⟨.tuple #[.slice none 0 0, .int .i64 x, placeV s.data.toList (pos s r)], ?_, rfl, hB3⟩
        rw [hq]
        simp [results, Try.results20, go_sem, a1, a2, a3, a4, a5]
      | ok t r =>
        rw [ht] at hcall
        have HCL := Lib.hid hcall
        have HT := Lib.hid ht
        clear hcall ht
        go_wp2_with fail
        refine HN.out.mono ?_
        rintro e w1 ⟨rfl, n, rfl⟩
        go_wp2_with fail
        refine (HCL.out n).mono ?_
        intro e w2 hO
        obtain ⟨rfl, ov2, av, hT2, hb⟩ : e = .returned (.tuple #[]) ∧ ∃ ov2 av, Toks w2 (w.heap.size + 4) s r ov2 (L ++ [(⟨t, av, ((pos s l : Nat) : Int), 0, 0⟩ : TkM)]) ∧ Below (w.heap.size + 4) (wr.drewN n) w2 := hO
        have hnew := (HA.out.drewN n).next HL.out HT.out hT2 hb
        clear hT2 hb HCL HN
        go_wp2
        go_roundw
        case rel => exact ⟨_, _, _, _, _, hnew⟩
        case measure =>
          rw [HA.out.toks.rd.place, hnew.toks.rd.place]
          have := pos_add HA.out.toks.rd.suf
          have := pos_add hnew.toks.rd.suf
          have := tokenR_less HT.out HL.out
          omega

end Go.Proofs.Ytpchljiiappmnaa
