/- The walk of the document's reader's attrs; the conditions stand in the theorem. -/
import Derived.Test.YtpchljiiappmnaaG32
import Derived.Test.YtpchljiiappmnaaG19
import Derived.Test.YtpchljiiappmnaaG12
namespace Go.Proofs.Ytpchljiiappmnaa
open Go Go.RowKit

/-- The post of the document's method that makes attributes. -/
def ROutA (b : Nat) (s : S) (w : World) : Res (List At2) → Ending → World → Prop
  | .ok a r => fun e w' => ∃ v, RGo v b s r 0 0 w e w' ∧ Owns w.heap.size 43 2 atC w' v a
  | .bad e r => fun x w' => ∃ l', RGo (.slice none 0 0) b s l' e (pos s r : Nat) w x w'

/-- What the document's loop over attributes has done so far. -/
structure RAtts (w wr : World) (b : Nat) (s : S) (v : Value) (l l' : Bs) (acc : List At2) (f : Nat) : Prop where
  rd : RR wr b s l' 0 0
  grown : w.grownBy wr (some b)
  own : Owns w.heap.size 43 2 atC wr v acc
  spec : attrsR l = attrsGo (f + 1) acc l'
  fuel : l'.length ≤ f
  len : acc.length + l'.length ≤ l.length

/-- Whether a name was there already, so far. -/
def Dup (s : S) (l1 : Bs) (acc : List At2) (nm : Bs) (j : Nat) (x o : Int) : Prop :=
  (x = 0 ∧ o = 0 ∧ acc.any (fun a => a.1 == nm) = (acc.drop j).any (fun a => a.1 == nm)) ∨ (x = 15 ∧ o = (pos s l1 : Nat) ∧ acc.any (fun a => a.1 == nm) = true)

theorem nameR_bad_ne {e : Int} {l r : Bs} {x : Int} (he : e ≠ 0) (h : nameR e l = .bad x r) : x ≠ 0 := by
  cases l with
  | nil => cases h; decide
  | cons c l =>
    simp only [nameR] at h
    split at h
    · cases h; exact he
    · cases h
theorem wantC_bad_ne {c : UInt8} {l r : Bs} {x : Int} (h : wantC c l = .bad x r) : x ≠ 0 := by
  cases l with
  | nil => cases h; decide
  | cons y l =>
    simp only [wantC] at h
    split at h
    · cases h
    · cases h; decide
theorem lettersGo_bad_ne {stop : UInt8} {l : Bs} : ∀ {k : Nat} {r : Bs} {x : Int}, lettersGo stop k l = .bad x r → x ≠ 0 := by
  induction l with
  | nil => intro k r x h; cases k <;> cases h
  | cons c l ih =>
    intro k r x h
    cases k with
    | succ k => exact ih (k := k) (by simpa only [lettersGo] using h)
    | zero =>
      simp only [lettersGo] at h
      by_cases h1 : c = stop
      · rw [if_pos h1] at h; cases h
      · rw [if_neg h1] at h
        by_cases h2 : c = 38
        · rw [if_pos h2] at h
          cases hr : refSpec (c :: l) with
          | ok t n =>
            rw [hr] at h
            simp only at h
            cases hg : lettersGo stop (n - 1) l with
            | ok a r' => rw [hg] at h; cases h
            | bad e r' => rw [hg] at h; cases h; exact ih hg
          | bad e =>
            rw [hr] at h
            simp only at h
            cases h
            rcases refSpec_bad hr with h | h <;> rw [h] <;> decide
        · rw [if_neg h2] at h
          by_cases h3 : c = 60 ∨ cText c = false
          · rw [if_pos h3] at h; cases h; decide
          · rw [if_neg h3] at h
            cases hg : lettersGo stop 0 l with
            | ok a r' => rw [hg] at h; cases h
            | bad e r' => rw [hg] at h; cases h; exact ih hg

set_option maxRecDepth 100000 in
set_option maxHeartbeats 16000000 in
theorem rattrs_any (b : Nat) (s : S) (l : Bs) (w : World) (h : RR w b s l 0 0) (hs : s.size ≤ 1000000) :
    Calls Try.prog 94 #[.pointer (some ⟨b, 0, none⟩)] w (ROutA b s w (attrsR l)) := by
  have hlt0 := h.box.lt
  have hll : l.length ≤ 1000000 := by have := pos_add h.suf; omega
  have hI : RAtts w w b s (.slice none 0 0) l l [] l.length := ⟨h, World.grownBy.refl _ _, Owns.nil, rfl, Nat.le_refl _, by simp⟩
  have HI := Lib.hid hI
  clear hI h
  go_enter Try.func94, Try.ntmps94
  go_wp2
  go_loopw [3] (fun v wr => ∃ l' acc f, RAtts w wr b s v l l' acc f) (fun _ wr => s.size - (placeOf wr b).toNat)
  case atStart => exact ⟨l, [], l.length, HI.out⟩
  case round =>
    clear HI
    obtain ⟨l', acc, f, hL⟩ := hrel
    have HL := Lib.hid hL
    have hsz := hL.grown.size
    have hB := Lib.hid (rblanks_any b s l' 0 0 wr hL.rd hs)
    have hle := blanks_le l'
    have hll2 : acc.length + l'.length ≤ 1000000 := by have := hL.len; omega
    have hp0 := pos_add hL.rd.suf
    obtain ⟨ao, cap, rfl⟩ := hL.own.shape
    have c1 := hL.rd.c1
    have c2 := hL.rd.c2
    have hltr := hL.rd.box.lt
    clear hL
    obtain ⟨p0, hpp0⟩ : ∃ p, p = pos s l' := ⟨_, rfl⟩
    rw [← hpp0] at c1 hp0
    clear hpp0
    go_wp2_with fail
    refine hB.out.mono ?_
    intro e w1 hO
    obtain ⟨rfl, hR1, hg1⟩ := hO
    have hG1 := Lib.hid (HL.out.grown.trans hg1)
    have hO1 := Lib.hid (HL.out.own.keptR hg1 hlt0)
    have HR1 := Lib.hid hR1
    clear hB hg1 c1 c2 hltr
    have hsz1 := hG1.out.size
    have c0 := hR1.c0
    have c1 := hR1.c1
    have hlt1 := hR1.box.lt
    have hp1 := pos_add hR1.suf
    by_cases hte : tagEnds l' = true
    · have HTE := Lib.hid hte
      rw [tagEnds_iff] at hte
      have hfin : attrsR l = .ok acc (blanks l') := by rw [HL.out.spec]; simp only [attrsGo]; rw [if_pos HTE.out]
      have HF := Lib.hid hfin
      clear hfin
      by_cases h0 : (blanks l').length = l'.length
      · obtain ⟨p1, hpp⟩ : ∃ p, p = pos s (blanks l') := ⟨_, rfl⟩
        rw [← hpp] at c1 hp1
        have e0 : ((p1 : Int) == (p0 : Int)) = true := beq_iff_eq.2 (by omega)
        clear hte hR1 h0 hpp hp0 hp1
        go_wp2
        go_quiet (fail)
        go_wp2
        go_ret
        rw [HF.out]
        exact ⟨_, ⟨rfl, HR1.out.drewN _, hG1.out.trans (grownN _ _ _)⟩, hO1.out⟩
      · rcases hte with h | h | ⟨r, h⟩ | ⟨r, h⟩
        · exact absurd h h0
        · obtain ⟨p1, hpp⟩ : ∃ p, p = pos s (blanks l') := ⟨_, rfl⟩
          rw [← hpp] at c1 hp1
          have e0 : ((p1 : Int) == (p0 : Int)) = false := beq_eq_false_iff_ne.2 (by omega)
          have d0 : decide (s.size ≤ p1) = true := by rw [decide_eq_true_iff]; rw [h] at hp1; simp at hp1; omega
          clear h hR1 h0 hpp hp0 hp1
          go_wp2
          go_quiet (fail)
          go_wp2
          go_ret
          rw [HF.out]
          exact ⟨_, ⟨rfl, HR1.out.drewN _, hG1.out.trans (grownN _ _ _)⟩, hO1.out⟩
        · have HA : Hid (∀ n, Calls Try.prog 89 #[.pointer (some ⟨b, 0, none⟩), .int .i64 0] (w1.drewN n) fun e w'' => e = .returned (.int .u8 (47 : Int)) ∧ ∃ m, w'' = w1.drewN m) := fun n => by
            have := rat_any b s (blanks l') 0 0 0 (w1.drewN n) (hR1.drewN n) hs (by omega)
            rw [h] at this; exact Qt.quiet this
          obtain ⟨p1, hpp⟩ : ∃ p, p = pos s (blanks l') := ⟨_, rfl⟩
          rw [← hpp] at c1 hp1
          have e0 : ((p1 : Int) == (p0 : Int)) = false := beq_eq_false_iff_ne.2 (by omega)
          have d0 : decide (s.size ≤ p1) = false := by rw [decide_eq_false_iff_not]; rw [h] at hp1; simp at hp1; omega
          clear h hR1 h0 hpp hp0 hp1
          go_wp2
          go_quiet ((go_at_call 89; exact HA.out _))
          go_wp2
          go_ret
          rw [HF.out]
          exact ⟨_, ⟨rfl, HR1.out.drewN _, hG1.out.trans (grownN _ _ _)⟩, hO1.out⟩
        · have HA : Hid (∀ n, Calls Try.prog 89 #[.pointer (some ⟨b, 0, none⟩), .int .i64 0] (w1.drewN n) fun e w'' => e = .returned (.int .u8 (62 : Int)) ∧ ∃ m, w'' = w1.drewN m) := fun n => by
            have := rat_any b s (blanks l') 0 0 0 (w1.drewN n) (hR1.drewN n) hs (by omega)
            rw [h] at this; exact Qt.quiet this
          obtain ⟨p1, hpp⟩ : ∃ p, p = pos s (blanks l') := ⟨_, rfl⟩
          rw [← hpp] at c1 hp1
          have e0 : ((p1 : Int) == (p0 : Int)) = false := beq_eq_false_iff_ne.2 (by omega)
          have d0 : decide (s.size ≤ p1) = false := by rw [decide_eq_false_iff_not]; rw [h] at hp1; simp at hp1; omega
          clear h hR1 h0 hpp hp0 hp1
          go_wp2
          go_quiet ((go_at_call 89; exact HA.out _))
          go_wp2
          go_ret
          rw [HF.out]
          exact ⟨_, ⟨rfl, HR1.out.drewN _, hG1.out.trans (grownN _ _ _)⟩, hO1.out⟩
    · have HTE := Lib.hid hte
      rw [tagEnds_iff] at hte
      obtain ⟨h0, c, r, hcr, h47, h62⟩ : ¬ (blanks l').length = l'.length ∧ ∃ c r, blanks l' = c :: r ∧ c ≠ 47 ∧ c ≠ 62 := by
        cases hb : blanks l' with
        | nil => exact absurd (.inr (.inl hb)) hte
        | cons c r =>
          refine ⟨fun e => hte (.inl (by rw [hb]; exact e)), c, r, rfl, fun e => hte (.inr (.inr (.inl ⟨r, by rw [hb, e]⟩))), fun e => hte (.inr (.inr (.inr ⟨r, by rw [hb, e]⟩)))⟩
      have HA : Hid (∀ n, Calls Try.prog 89 #[.pointer (some ⟨b, 0, none⟩), .int .i64 0] (w1.drewN n) fun e w'' => e = .returned (.int .u8 (c.toNat : Int)) ∧ ∃ m, w'' = w1.drewN m) := fun n => by
        have := rat_any b s (blanks l') 0 0 0 (w1.drewN n) (hR1.drewN n) hs (by omega)
        rw [hcr] at this; exact Qt.quiet this
      have e47 : (((c.toNat : Nat) : Int) == 47) = false := ne_u8 (c := 47) h47
      have e62 : (((c.toNat : Nat) : Int) == 62) = false := ne_u8 (c := 62) h62
      have hfin : attrsR l = (match attrR acc (blanks l') with
          | .ok a r => attrsGo f (acc ++ [a]) r
          | .bad e r => .bad e r) := by rw [HL.out.spec]; simp only [attrsGo]; rw [if_neg HTE.out]; rfl
      have HF := Lib.hid hfin
      have hlen1 : (blanks l').length < l'.length := by omega
      obtain ⟨p1, hpp⟩ : ∃ p, p = pos s (blanks l') := ⟨_, rfl⟩
      rw [← hpp] at c1 hp1
      have HPP := Lib.hid hpp
      have e0 : ((p1 : Int) == (p0 : Int)) = false := beq_eq_false_iff_ne.2 (by omega)
      have d0 : decide (s.size ≤ p1) = false := by rw [decide_eq_false_iff_not]; rw [hcr] at hp1; simp at hp1; omega
      clear hfin hte hcr h0 h47 h62 hle hR1 hpp hp0 hp1
      generalize blanks l' = l1 at *
      go_wp2
      go_quiet ((go_at_call 89; exact HA.out _))
      go_upto_region 7 with fail
      refine wp_world ?_
      intro W0 hW0
      have hR0 : RR W0 b s l1 0 0 := by rw [hW0]; exact HR1.out.drewN _
      have hG0 : Hid (w.grownBy W0 (some b)) := by rw [hW0]; exact hG1.out.trans (grownN _ _ _)
      have hO0 : Hid (Owns w.heap.size 43 2 atC W0 (.slice ao acc.length cap) acc) := by rw [hW0]; exact hO1.out.keptR (grownN w1 _ (some b)) hlt0
      clear hW0 c0 c1 hlt1 HA e47 e62 e0 d0 HR1 hG1 hO1
      have hcall := rrname_any b s 10 l1 W0 hR0 hs
      have hsz0 := hG0.out.size
      have hlt1 := hR0.box.lt
      have c1 := hR0.c1
      rw [← HPP.out] at c1
      clear hR0
      cases hnm : nameR 10 l1 with
      | bad x r1 =>
        rw [hnm] at hcall
        have HNM := Lib.hid hnm
        have hx0 : x ≠ 0 := nameR_bad_ne (by decide) hnm
        clear hnm
        have HCL := Lib.hid hcall
        clear hcall
        go_wp2_with fail
        refine HCL.out.mono ?_
        intro e w2 hO
        obtain ⟨l2, rfl, hR2, hg2⟩ : ∃ l', RGo (.string ⟨#[]⟩) b s l' x (pos s r1 : Nat) W0 e w2 := hO
        have hG2 := Lib.hid (hG0.out.trans hg2)
        have hO2 := Lib.hid (hO0.out.keptR hg2 hlt0)
        have HR2 := Lib.hid hR2
        have hsz2 := hG2.out.size
        have hS2 := Lib.hid (hO2.out.slice atC_len)
        have HX0 := Lib.hid hx0
        have ex0 : (x == 0) = false := beq_eq_false_iff_ne.2 hx0
        have ex1 : (x != 0) = true := by rw [bne_iff_ne]; exact hx0
        clear hR2 hg2 c1 HCL hx0
        go_wp2
        go_loopw [8, 59] (fun _ i wr => ∃ j : Nat, j ≤ acc.length ∧ i = .int .i64 j ∧ Below w2.heap.size w2 wr) (fun _ i _ => acc.length - (intOf i).toNat)
        case atStart => exact ⟨0, Nat.zero_le _, rfl, Below.refl _ _⟩
        case round =>
          obtain ⟨j, hj, rfl, hb⟩ := hrel
          have hszr := hb.size
          have hR3 := HR2.out.below hb
          have c2 := hR3.c2
          have hlt3 := hR3.box.lt
          have HR3 := Lib.hid hR3
          clear hR3
          by_cases hjl : j < acc.length
          · obtain ⟨bb, oo, rfl, hbl, hcell⟩ := (hS2.out.below hb).at hjl
            have g0 : wr.cell? ⟨bb, oo + j * 2, none⟩ = some (.string (bs acc[j].1)) := by simpa using hcell 0 _ rfl
            have g1 : wr.cell? ⟨bb, oo + j * 2 + 1, none⟩ = some (.string (bs acc[j].2)) := hcell 1 _ rfl
            clear hcell
            generalize bs acc[j].1 = y1 at *
            generalize bs acc[j].2 = y2 at *
            go_wp2
            all_goals
              go_roundw
              case rel => exact ⟨j + 1, by omega, by go_num, hb.alloc hszr _⟩
              case measure => simp [intOf]; omega
          · have hG3 := Lib.hid (grown_below hG2.out hb hsz2)
            clear hb hS2 hj
            go_wp2
            go_ret
            rw [HF.out, show attrR acc l1 = .bad x r1 by unfold attrR; rw [HNM.out]; rfl]
            exact ⟨l2, rfl, HR3.out, hG3.out⟩
      | ok nm r1 =>
        rw [hnm] at hcall
        have HNM := Lib.hid hnm
        clear hnm
        have HCL := Lib.hid hcall
        clear hcall
        go_wp2_with fail
        refine HCL.out.mono ?_
        intro e w2 hO
        obtain ⟨rfl, hR2, hg2⟩ : RGo (.string (bs nm)) b s r1 0 0 W0 e w2 := hO
        have hG2 := Lib.hid (hG0.out.trans hg2)
        have hO2 := Lib.hid (hO0.out.keptR hg2 hlt0)
        have HR2 := Lib.hid hR2
        have hsz2 := hG2.out.size
        have hlt2 := hR2.box.lt
        clear hR2 hg2 c1 HCL hlt1
        go_wp2
        go_loopw [8, 59] (fun _ i wr => ∃ (j : Nat) (x o : Int), j ≤ acc.length ∧ i = .int .i64 j ∧ w2.grownBy wr (some b) ∧ RR wr b s r1 x o ∧ Dup s l1 acc nm j x o) (fun _ i _ => acc.length - (intOf i).toNat)
        case atStart => exact ⟨0, 0, 0, Nat.zero_le _, rfl, World.grownBy.refl _ _, HR2.out, .inl ⟨rfl, rfl, rfl⟩⟩
        case round =>
          obtain ⟨j, x, o, hj, rfl, hg, hR, H⟩ := hrel
          have hszr := hg.size
          have c2 := hR.c2
          have hltr := hR.box.lt
          have HR := Lib.hid hR
          have hO3 := Lib.hid (hO2.out.keptR hg hlt0)
          have HGR := Lib.hid hg
          clear hR hg
          by_cases hjl : j < acc.length
          · obtain ⟨bb, oo, rfl, hbl, hcell⟩ := (hO3.out.slice atC_len).at hjl
            have g0 : wr.cell? ⟨bb, oo + j * 2, none⟩ = some (.string (bs acc[j].1)) := by simpa using hcell 0 _ rfl
            have g1 : wr.cell? ⟨bb, oo + j * 2 + 1, none⟩ = some (.string (bs acc[j].2)) := hcell 1 _ rfl
            have HD := Lib.hid (drop_cons' hjl)
            have HMEM : Hid (acc[j].1 = nm → acc.any (fun a => a.1 == nm) = true) := fun h => List.any_eq_true.2 ⟨acc[j], List.getElem_mem hjl, by simpa using h⟩
            clear hcell
            generalize acc[j] = a at *
            obtain ⟨a1, a2⟩ := a
            simp only at g0 g1 HMEM
            have HFL : Hid (∀ (W : World), RR W b s r1 0 0 → Calls Try.prog 120 #[.pointer (some ⟨b, 0, none⟩), .int .i64 15, .int .i64 p1] W (RGo (.tuple #[]) b s r1 15 p1 W)) := fun W hW => rfail_go b s r1 0 15 p1 W hW
            rcases H with ⟨rfl, rfl, H⟩ | ⟨rfl, rfl, H⟩
            · have HH := Lib.hid H
              clear H
              by_cases ha : a1 = nm
              · have hq : ((bs a1).toList == (bs nm).toList) = true := by rw [ha]; simp
                have HAT := Lib.hid (HMEM.out ha)
                clear ha
                generalize bs a1 = y1 at *
                generalize bs a2 = y2 at *
                go_wp2_with fail
                refine Calls.world ?_
                intro W4 hW4
                have hb4 : Below wr.heap.size wr W4 := by rw [hW4]; exact (Below.refl _ _).alloc (Nat.le_refl _) _
                clear hW4
                refine (HFL.out W4 (HR.out.below hb4)).mono ?_
                rintro e w' ⟨rfl, hR5, hg5⟩
                have HB4 := Lib.hid hb4
                have HR5 := Lib.hid hR5
                have HG5 := Lib.hid hg5
                clear hb4 hR5 hg5
                go_wp2
                go_roundw
                case rel => exact ⟨j + 1, 15, p1, by omega, by go_num, (HGR.out.trans (grownOf HB4.out _)).trans HG5.out, HR5.out, .inr ⟨rfl, by rw [HPP.out], HAT.out⟩⟩
                case measure => simp [intOf]; omega
              · have hq : ((bs a1).toList == (bs nm).toList) = false := by
                  rw [ByteArray.toList_eq, ByteArray.toList_eq, bs_data, bs_data]; simpa using ha
                have hst : Hid (acc.any (fun a => a.1 == nm) = (acc.drop (j + 1)).any (fun a => a.1 == nm)) := by
                  have hx : (a1 == nm) = false := by simpa using ha
                  show _ = _
                  rw [HH.out, HD.out]; simp only [List.any_cons, hx, Bool.false_or]
                clear ha
                generalize bs a1 = y1 at *
                generalize bs a2 = y2 at *
                go_wp2
                go_roundw
                case rel => exact ⟨j + 1, 0, 0, by omega, by go_num, HGR.out.trans (World.grownBy_alloc _ _ _), HR.out.below ((Below.refl _ _).alloc (Nat.le_refl _) _), .inl ⟨rfl, rfl, hst.out⟩⟩
                case measure => simp [intOf]; omega
            · have HH := Lib.hid H
              clear H
              generalize bs a1 = y1 at *
              generalize bs a2 = y2 at *
              go_wp2
              all_goals
                go_roundw
                case rel => exact ⟨j + 1, 15, (pos s l1 : Nat), by omega, by go_num, HGR.out.trans (World.grownBy_alloc _ _ _), HR.out.below ((Below.refl _ _).alloc (Nat.le_refl _) _), .inr ⟨rfl, rfl, HH.out⟩⟩
                case measure => simp [intOf]; omega
          · obtain rfl : j = acc.length := by omega
            have hG3 := Lib.hid (hG2.out.trans HGR.out)
            rcases H with ⟨rfl, rfl, H⟩ | ⟨rfl, rfl, H⟩
            rotate_left
            · have hat : attrR acc l1 = .bad 15 l1 := by
                unfold attrR; rw [HNM.out]; simp only [Res.bind]
                rw [if_pos (by rw [H])]
              have HAT := Lib.hid hat
              clear hat H
              go_wp2
              go_ret
              rw [HF.out, HAT.out]
              exact ⟨r1, rfl, HR.out, hG3.out⟩
            have hno : acc.any (fun a => a.1 == nm) = false := by rw [H, List.drop_of_length_le (Nat.le_refl _)]; rfl
            have HNO := Lib.hid hno
            clear hno H
            have hB3 := Lib.hid (rblanks_any b s r1 0 0 wr HR.out hs)
            have hl1 : r1.length < l1.length := nameR_less HNM.out
            have hl2 := blanks_le r1
            go_wp2_with fail
            refine hB3.out.mono ?_
            intro e w4 hO
            obtain ⟨rfl, hR4, hg4⟩ := hO
            have hG4 := Lib.hid (hG3.out.trans hg4)
            have hO4 := Lib.hid (hO3.out.keptR hg4 hlt0)
            clear hg4 hB3 c2
            have hcall := rwant_any b s 61 (blanks r1) w4 hR4 hs
            cases hwt : wantC 61 (blanks r1) with
            | bad x r2 =>
              rw [hwt] at hcall
              have HWT := Lib.hid hwt
              have hx0 := wantC_bad_ne hwt
              clear hwt
              have HCL := Lib.hid hcall
              clear hcall hR4
              go_wp2_with fail
              refine HCL.out.mono ?_
              intro e w5 hO
              obtain ⟨l2, rfl, hR5, hg5⟩ : ∃ l', RGo (.tuple #[]) b s l' x (pos s r2 : Nat) w4 e w5 := hO
              have hB5 := Lib.hid (rblanks_any b s l2 x (pos s r2 : Nat) w5 hR5 hs)
              have hG5 := Lib.hid (hG4.out.trans hg5)
              clear hR5 hg5
              go_wp2_with fail
              refine hB5.out.mono ?_
              intro e w6 hO
              obtain ⟨rfl, hR6, hg6⟩ := hO
              have HN := Lib.hid (rend_bad b s (blanks l2) x (pos s r2 : Nat) w6 hR6 hx0)
              have HR6 := Lib.hid hR6
              have hG6 := Lib.hid (hG5.out.trans hg6)
              clear hR6 hg6 hx0
              go_wp2_with fail
              refine HN.out.mono ?_
              rintro e w' ⟨rfl, n, rfl⟩
              go_wp2
              go_ret
              rw [HF.out, show attrR acc l1 = .bad x r2 by unfold attrR; rw [HNM.out]; simp only [Res.bind]; rw [if_neg (by rw [HNO.out]; simp), HWT.out]]
              exact ⟨_, rfl, HR6.out.drewN n, hG6.out.trans (grownN _ _ _)⟩
            | ok u r2 =>
              rw [hwt] at hcall
              have HWT := Lib.hid hwt
              have hl3 : r2.length ≤ (blanks r1).length := by
                have := wantC_suf 61 (blanks r1); rw [hwt] at this; exact List.IsSuffix.length_le this
              have hl4 := blanks_le r2
              clear hwt
              have HCL := Lib.hid hcall
              clear hcall hR4
              go_wp2_with fail
              refine HCL.out.mono ?_
              intro e w5 hO
              obtain ⟨rfl, hR5, hg5⟩ : RGo (.tuple #[]) b s r2 0 0 w4 e w5 := hO
              have hG5 := Lib.hid (hG4.out.trans hg5)
              have hO5 := Lib.hid (hO4.out.keptR hg5 hlt0)
              have hB5 := Lib.hid (rblanks_any b s r2 0 0 w5 hR5 hs)
              clear hg5 HCL hR5
              go_wp2_with fail
              refine hB5.out.mono ?_
              intro e w6 hO
              obtain ⟨rfl, hR6, hg6⟩ := hO
              have hG6 := Lib.hid (hG5.out.trans hg6)
              have hO6 := Lib.hid (hO5.out.keptR hg6 hlt0)
              clear hg6 hB5
              have HAT : Hid (attrR acc l1 = (valueR (blanks r2)).map fun v => (nm, v)) := by
                show _ = _
                unfold attrR; rw [HNM.out]; simp only [Res.bind]; rw [if_neg (by rw [HNO.out]; simp), HWT.out]
              generalize hl6 : blanks r2 = l6 at *
              clear hl6
              cases l6 with
              | nil =>
                have HN := Lib.hid (rend_end b s 0 w6 hR6)
                clear hR6
                go_wp2_with fail
                refine HN.out.mono ?_
                rintro e w7 ⟨rfl, hR7, hg7⟩
                go_wp2
                go_ret
                rw [HF.out, HAT.out]
                exact ⟨[], rfl, by rw [pos_nil]; exact hR7, hG6.out.trans hg7⟩
              | cons q l7 =>
                have HN := Lib.hid (rend_no b s q l7 w6 0 hR6)
                have HR6 := Lib.hid hR6
                clear hR6
                go_wp2_with fail
                refine HN.out.mono ?_
                rintro e W7 ⟨rfl, n, hW7⟩
                have hR7 : RR W7 b s (q :: l7) 0 0 := by rw [hW7]; exact HR6.out.drewN n
                have hG7 : Hid (w.grownBy W7 (some b)) := by rw [hW7]; exact hG6.out.trans (grownN _ _ _)
                have hO7 : Hid (Owns w.heap.size 43 2 atC W7 (.slice ao acc.length cap) acc) := by rw [hW7]; exact hO6.out.keptR (grownN w6 _ (some b)) hlt0
                clear hW7 HN HR6 hG6 hO6
                have HA := Lib.hid (rat_any b s (q :: l7) 0 0 0 W7 hR7 hs (by omega))
                have HR7 := Lib.hid hR7
                clear hR7
                go_wp2_with fail
                refine HA.out.mono ?_
                rintro e W8 ⟨rfl, n, hW8⟩
                have hR8 : RR W8 b s (q :: l7) 0 0 := by rw [hW8]; exact HR7.out.drewN n
                have hG8 : Hid (w.grownBy W8 (some b)) := by rw [hW8]; exact hG7.out.trans (grownN _ _ _)
                have hO8 : Hid (Owns w.heap.size 43 2 atC W8 (.slice ao acc.length cap) acc) := by rw [hW8]; exact hO7.out.keptR (grownN W7 _ (some b)) hlt0
                clear hW8 HA HR7 hG7 hO7
                have hq0 : atV (q :: l7) 0 = q := rfl
                rw [hq0]
                clear hq0
                have c1 := hR8.c1
                have f1 := hR8.box.free 1
                have hlt8 := hR8.box.lt
                have HC := Lib.hid (pos_cons hR8.suf)
                have HS := Lib.hid (suf_tail hR8.suf)
                have hpl := pos_lt hR8.suf
                have HR8 := Lib.hid hR8
                clear hR8
                generalize hp8 : pos s (q :: l7) = p8 at *
                have HP8 := Lib.hid hp8
                clear hp8
                by_cases hq : q = 34 ∨ q = 39
                rotate_left
                · have e34 : (((q.toNat : Nat) : Int) != 34) = true := by rw [bne_iff_ne]; intro e; exact hq (.inl (UInt8.toNat_inj.1 (by simpa using (by omega : q.toNat = 34))))
                  have e39 : (((q.toNat : Nat) : Int) != 39) = true := by rw [bne_iff_ne]; intro e; exact hq (.inr (UInt8.toNat_inj.1 (by simpa using (by omega : q.toNat = 39))))
                  have HFL := Lib.hid (rfail_go b s (q :: l7) 0 10 p8 W8 HR8.out)
                  have HV : Hid (valueR (q :: l7) = .bad 10 (q :: l7)) := by show _ = _; simp only [valueR]; rw [if_neg hq]
                  clear hq
                  go_wp2_with fail
                  refine HFL.out.mono ?_
                  rintro e w9 ⟨rfl, hR9, hg9⟩
                  go_wp2
                  go_ret
                  rw [HF.out, HAT.out, HV.out]
                  exact ⟨_, rfl, by rw [HP8.out]; exact hR9, hG8.out.trans hg9⟩
                have HV : Hid (valueR (q :: l7) = (letters q l7).bind fun s r => match r with
                    | [] => .bad 13 []
                    | _ :: r' => .ok s r') := by show _ = _; simp only [valueR]; rw [if_pos hq]; rfl
                have hor : (((q.toNat : Nat) : Int) != 34) = false ∨ (((q.toNat : Nat) : Int) != 34) = true ∧ (((q.toNat : Nat) : Int) != 39) = false := by
                  rcases hq with rfl | rfl
                  · exact .inl (by decide)
                  · exact .inr ⟨by decide, by decide⟩
                clear hq
                have hp8i : (p8 : Int) + 1 ≤ 1000000 := by omega
                rcases hor with e34 | ⟨e34, e39⟩
                all_goals
                  go_wp2_with fail
                  refine Calls.world ?_
                  intro W9 hW9
                  have hR9 : RR W9 b s l7 0 0 := by rw [hW9]; exact HR8.out.move HS.out (by rw [HC.out]; rfl)
                  have hg9 : W8.grownBy W9 (some b) := by rw [hW9]; exact setCell_grown _ b 1 _
                  have hG9 := Lib.hid (hG8.out.trans hg9)
                  have hO9 := Lib.hid (hO8.out.keptR hg9 hlt0)
                  clear hW9 hg9 c1 f1
                  have hcall := rletters_any b s q l7 W9 hR9 hs
                  clear hR9
                  have hl7 := letters_suf q l7
                  cases hlt : letters q l7 with
                  | bad x r3 =>
                    rw [hlt] at hcall
                    have hx0 : x ≠ 0 := lettersGo_bad_ne hlt
                    have HLT := Lib.hid hlt
                    clear hlt hl7
                    refine hcall.mono ?_
                    intro e wa hO
                    obtain ⟨l8, rfl, hRa, hga⟩ : ∃ l', RGo (.string ⟨#[]⟩) b s l' x (pos s r3 : Nat) W9 e wa := hO
                    have HN := Lib.hid (rend_bad b s l8 x (pos s r3 : Nat) wa hRa hx0)
                    have HRa := Lib.hid hRa
                    have HGa := Lib.hid (hG9.out.trans hga)
                    clear hRa hga hx0 hcall
                    go_wp2_with fail
                    refine HN.out.mono ?_
                    rintro e w' ⟨rfl, n, rfl⟩
                    go_wp2
                    go_ret
                    rw [HF.out, HAT.out, HV.out, HLT.out]
                    exact ⟨_, rfl, HRa.out.drewN n, HGa.out.trans (grownN _ _ _)⟩
                  | ok vt r3 =>
                    rw [hlt] at hcall hl7
                    have HLT := Lib.hid hlt
                    clear hlt
                    have hl8 : r3.length ≤ l7.length := List.IsSuffix.length_le hl7
                    clear hl7
                    refine hcall.mono ?_
                    intro e wa hO
                    obtain ⟨rfl, hRa, hga⟩ : RGo (.string (bs vt)) b s r3 0 0 W9 e wa := hO
                    have HRa := Lib.hid hRa
                    have HGa := Lib.hid (hG9.out.trans hga)
                    have HOa := Lib.hid (hO9.out.keptR hga hlt0)
                    clear hga hcall
                    cases r3 with
                    | nil =>
                      have HN := Lib.hid (rend_end b s 0 wa hRa)
                      clear hRa
                      go_wp2_with fail
                      refine HN.out.mono ?_
                      rintro e wb ⟨rfl, hRb, hgb⟩
                      go_wp2
                      go_ret
                      rw [HF.out, HAT.out, HV.out, HLT.out]
                      exact ⟨[], rfl, by rw [pos_nil]; exact hRb, HGa.out.trans hgb⟩
                    | cons y r4 =>
                      have HN := Lib.hid (rend_no b s y r4 wa 0 hRa)
                      clear hRa
                      go_wp2_with fail
                      refine HN.out.mono ?_
                      rintro e Wb ⟨rfl, n, hWb⟩
                      have hRb : RR Wb b s (y :: r4) 0 0 := by rw [hWb]; exact HRa.out.drewN n
                      have hGb : Hid (w.grownBy Wb (some b)) := by rw [hWb]; exact HGa.out.trans (grownN _ _ _)
                      have hOb : Hid (Owns w.heap.size 43 2 atC Wb (.slice ao acc.length cap) acc) := by rw [hWb]; exact HOa.out.keptR (grownN wa _ (some b)) hlt0
                      clear hWb HN HRa HGa HOa
                      have c1 := hRb.c1
                      have f1 := hRb.box.free 1
                      have hltb := hRb.box.lt
                      have HCb := Lib.hid (pos_cons hRb.suf)
                      have HSb := Lib.hid (suf_tail hRb.suf)
                      have hplb := pos_lt hRb.suf
                      have HRb := Lib.hid hRb
                      clear hRb
                      generalize hpb : pos s (y :: r4) = pb at *
                      clear hpb
                      have hpbi : (pb : Int) + 1 ≤ 1000000 := by omega
                      have hat : attrR acc l1 = .ok (nm, vt) r4 := by rw [HAT.out, HV.out, HLT.out]; rfl
                      have HATT := Lib.hid hat
                      have hl9 := attrR_less hat
                      clear hat
                      go_upto_region 31 with fail
                      refine wp_world ?_
                      intro w7 hW7
                      have hR7 : RR w7 b s r4 0 0 := by rw [hW7]; exact HRb.out.move HSb.out (by rw [HCb.out]; rfl)
                      have hg7 : Wb.grownBy w7 (some b) := by rw [hW7]; exact setCell_grown _ b 1 _
                      have hG7 := Lib.hid (hGb.out.trans hg7)
                      have hO7 := Lib.hid (hOb.out.keptR hg7 hlt0)
                      clear hW7 hg7 c1 f1
                      have HR7 := Lib.hid hR7
                      clear hR7
                      have hsz7 := hG7.out.size
                      go_wp2_with (at_builtin; refine wpList_append_slice _ rfl _ _ 32 rfl w.heap.size 43 Try.underlying32 info_attr rfl (by decide) atC_len (.slice ao acc.length cap) acc rfl (hO7.out.alloc _) _ [(nm, vt)] rfl (sliceLit atC_len w7 [(nm, vt)] _ _ 1 rfl rfl (by simp [maxLen])) (fun y _ => atC_one) (by simp; omega) (by decide) (by simp; omega) ?_; intro v8 w8 hown8 hgrow8 hloc8)
                      have hb8 := ((Below.refl w.heap.size w7).alloc hsz7 (.cells (([(nm, vt)] : List At2).flatMap atC).toArray 43)).grown hgrow8 (by simp; omega) (fun k hk => (hO7.out.lt k hk).1)
                      have hnew : RAtts w w8 b s v8 l r4 (acc ++ [(nm, vt)]) (f - 1) := by
                        refine ⟨HR7.out.belowB hb8 hlt0, grown_below hG7.out hb8 (Nat.le_refl _), hown8, ?_, ?_, ?_⟩
                        · rw [HF.out, HATT.out]; simp only
                          obtain ⟨f', rfl⟩ : ∃ f', f = f' + 1 := ⟨f - 1, by have := HL.out.fuel; omega⟩
                          rfl
                        · have := HL.out.fuel; omega
                        · have := HL.out.len; simp; omega
                      go_wp2
                      go_roundw
                      case rel => exact ⟨_, _, _, hnew⟩
                      case measure =>
                        rw [HL.out.rd.place, hnew.rd.place]
                        have := pos_add HL.out.rd.suf
                        have := pos_add hnew.rd.suf
                        omega

end Go.Proofs.Ytpchljiiappmnaa

/- Walks of cut and of the document's At; the conditions stand in the theorems. -/
namespace Go.Proofs.Ytpchljiiappmnaa
open Go Go.RowKit

def cutS (s : S) : S := if 2000 < s.size then s.extract 0 2000 else s
theorem cutS_size (s : S) : (cutS s).size ≤ 2000 := by
  unfold cutS
  split
  · rw [← size_data, Lib.extract_data]; simp; omega
  · omega

set_option maxHeartbeats 1000000 in
theorem cut_any (s : S) (w : World) : Calls Try.prog 19 #[.string s] w fun e w' => e = .returned (.string (cutS s)) ∧ w = w' := by
  by_cases h : 2000 < s.size
  · have hi : (2000 : Int) < (s.size : Int) := by omega
    have h2 : 2000 ≤ s.size := by omega
    have HE : Hid (cutS s = s.extract 0 2000) := by show _ = _; unfold cutS; rw [if_pos h]
    clear h
    go_enter Try.func19, Try.ntmps19
    go_wp2
    go_ret
    exact ⟨by rw [HE.out]; rfl, rfl⟩
  · have hi : ¬ (2000 : Int) < (s.size : Int) := by omega
    have HE : Hid (cutS s = s) := by show _ = _; unfold cutS; rw [if_neg h]
    clear h
    go_enter Try.func19, Try.ntmps19
    go_wp2
    go_ret
    exact ⟨by rw [HE.out]; rfl, rfl⟩

set_option maxHeartbeats 2000000 in
theorem refAt_any (s : S) (o : Nat) (w : World) (h : o ≤ s.size) (hs : s.size ≤ 1000000) :
    Calls Try.prog 24 #[.string s, .int .i64 o] w fun e w' => e = .returned (.tuple #[.int .i64 (lineCol (s.data.toList.take o)).1, .int .i64 (lineCol (s.data.toList.take o)).2]) ∧ w = w' := by
  go_enter Try.func24, Try.ntmps24
  go_wp2
  go_loop [6, 7, 8] (fun li co i => ∃ a : Nat, a ≤ o ∧ i = .int .i64 a ∧ li = .int .i64 (lineCol (s.data.toList.take a)).1 ∧ co = .int .i64 (lineCol (s.data.toList.take a)).2) (fun _ _ i => o - (intOf i).toNat)
  case atStart => exact ⟨0, Nat.zero_le _, rfl, by simp [lineCol], by simp [lineCol]⟩
  case round =>
    obtain ⟨a, ha, rfl, rfl, rfl⟩ := hrel
    obtain ⟨-, -, b3, b4⟩ := lineCol_pos (s.data.toList.take a)
    rw [List.length_take] at b3 b4
    have b5 : (lineCol (s.data.toList.take a)).1 ≤ 1000001 := by omega
    have b6 : (lineCol (s.data.toList.take a)).2 ≤ 1000001 := by omega
    clear b3 b4
    by_cases hlt : a < o
    · have has : a < s.size := by omega
      have hsn : s.data.toList.take (a + 1) = s.data.toList.take a ++ [s[a]] := by
        rw [List.take_succ_eq_append_getElem (by rw [size_data]; exact has)]; rfl
      by_cases h10 : s[a] = 10
      · have e1 : (((s[a].toNat : Nat) : Int) == 10) = true := by rw [h10]; decide
        have HL : Hid (lineCol (s.data.toList.take (a + 1)) = ((lineCol (s.data.toList.take a)).1 + 1, 1)) := by show _ = _; rw [hsn, lineCol_snoc, if_pos h10]
        clear hsn h10
        generalize (lineCol (s.data.toList.take a)).1 = li at *
        generalize (lineCol (s.data.toList.take a)).2 = co at *
        go_wp2
        go_round
        case rel => exact ⟨a + 1, hlt, by go_num, by rw [HL.out]; go_num, by rw [HL.out]; rfl⟩
        case measure => simp [intOf]; omega
      · have e1 : (((s[a].toNat : Nat) : Int) == 10) = false := by
          rw [beq_eq_false_iff_ne]; intro e; exact h10 (UInt8.toNat_inj.1 (by simpa using (by omega : s[a].toNat = 10)))
        have HL : Hid (lineCol (s.data.toList.take (a + 1)) = ((lineCol (s.data.toList.take a)).1, (lineCol (s.data.toList.take a)).2 + 1)) := by show _ = _; rw [hsn, lineCol_snoc, if_neg h10]
        clear hsn h10
        generalize (lineCol (s.data.toList.take a)).1 = li at *
        generalize (lineCol (s.data.toList.take a)).2 = co at *
        go_wp2
        go_round
        case rel => exact ⟨a + 1, hlt, by go_num, by rw [HL.out], by rw [HL.out]; go_num⟩
        case measure => simp [intOf]; omega
    · obtain rfl : a = o := by omega
      go_wp2
      go_ret2
      exact ⟨rfl, rfl⟩

end Go.Proofs.Ytpchljiiappmnaa
