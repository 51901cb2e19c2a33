/- The walk of the program's reader's attrs; its conditions stand in the theorem. -/
import Derived.Test.YtpchljiiappmnaaK17
namespace Go.Proofs.Ytpchljiiappmnaa
open Go Go.RowKit

def atC (a : At2) : List Value := [.string (bs a.1), .string (bs a.2)]
theorem atC_len (a : At2) : (atC a).length = 2 := rfl
theorem atC_one {a : At2} : ∀ u ∈ atC a, u.oneCell' = true := by intro u hu; simp [atC] at hu; rcases hu with rfl | rfl <;> rfl
theorem info_attr : (Try.prog.info? 43).map (fun i => (i.zero, i.size, i.bytes)) = some (some (.agg #[.string ⟨#[]⟩, .string ⟨#[]⟩]), 2, 32) := by kernel_rfl

theorem tagEnds_iff (l : Bs) : tagEnds l = true ↔ ((blanks l).length = l.length ∨ blanks l = [] ∨ (∃ r, blanks l = 47 :: r) ∨ ∃ r, blanks l = 62 :: r) := by
  unfold tagEnds
  cases blanks l with
  | nil => simp
  | cons c r => simp [or_assoc]

theorem nameR_less {e : Int} {l nm r : Bs} (h : nameR e l = .ok nm r) : r.length < l.length := by
  cases l with
  | nil => cases h
  | cons c l =>
    simp only [nameR] at h
    split at h
    · cases h
    · cases h; rw [List.length_drop]; simp only [List.length_cons]; omega
theorem attrR_less {acc : List At2} {l : Bs} {a : At2} {r : Bs} (h : attrR acc l = .ok a r) : r.length < l.length := by
  unfold attrR at h
  cases hn : nameR 10 l with
  | bad e r1 => rw [hn] at h; cases h
  | ok nm r1 =>
    rw [hn] at h
    have h1 := nameR_less hn
    simp only [Res.bind] at h
    split at h
    · cases h
    · have h2 := wantC_suf 61 (blanks r1)
      have h0 := blanks_le r1
      cases hw : wantC 61 (blanks r1) with
      | bad e r2 => rw [hw] at h; cases h
      | ok u r2 =>
        rw [hw] at h h2
        have h2' : r2.length ≤ (blanks r1).length := List.IsSuffix.length_le h2
        have h3 := valueR_suf (blanks r2)
        have h4 := blanks_le r2
        simp only at h
        cases hv : valueR (blanks r2) with
        | bad e r3 => rw [hv] at h; cases h
        | ok v r3 =>
          rw [hv] at h h3
          have h3' : r3.length ≤ (blanks r2).length := List.IsSuffix.length_le h3
          cases h
          omega

/-- The post of a method that makes attributes. -/
def OutA (b : Nat) (s : S) (ov : Value) (w : World) : Res (List At2) → Ending → World → Prop
  | .ok a r => fun e w' => ∃ v, Goes v b s r ov w e w' ∧ Owns w.heap.size 43 2 atC w' v a
  | .bad e r => Bad e s r b w

/-- What the loop over attributes has done so far. -/
structure Atts (w wr : World) (b : Nat) (s : S) (ov v : Value) (l l' : Bs) (acc : List At2) (f : Nat) : Prop where
  rd : Rd wr b s l' ov
  grown : w.grownBy wr (some b)
  own : Owns w.heap.size 43 2 atC wr v acc
  spec : attrsR l = attrsGo (f + 1) acc l'
  fuel : l'.length ≤ f
  len : acc.length + l'.length ≤ l.length

set_option maxRecDepth 100000 in
set_option maxHeartbeats 8000000 in
theorem attrs_any (b : Nat) (s : S) (l : Bs) (ov : Value) (w : World) (h : Rd w b s l ov) (hs : s.size ≤ 1000000) :
    Calls Try.prog 84 #[.pointer (some ⟨b, 0, none⟩)] w (OutA b s ov w (attrsR l)) := by
  have hlt0 := h.box.lt
  have hll : l.length ≤ 1000000 := by have := pos_add h.suf; omega
  have hI : Atts w w b s ov (.slice none 0 0) l l [] l.length := ⟨h, World.grownBy.refl _ _, Owns.nil, rfl, Nat.le_refl _, by simp⟩
  have HI := Lib.hid hI
  clear hI h
  go_enter Try.func84, Try.ntmps84
  go_wp2
  go_loopw [2] (fun v wr => ∃ l' acc f, Atts w wr b s ov v l l' acc f) (fun _ wr => s.size - (placeOf wr b).toNat)
  case atStart => exact ⟨l, [], l.length, HI.out⟩
  case round =>
    clear HI
    obtain ⟨l', acc, f, hL⟩ := hrel
    have HL := Lib.hid hL
    have hsz := hL.grown.size
    have hB := Lib.hid (blanks_any b s l' ov wr hL.rd hs)
    have hle := blanks_le l'
    have hll2 : acc.length + l'.length ≤ 1000000 := by have := hL.len; omega
    obtain ⟨ao, cap, rfl⟩ := hL.own.shape
    clear hL
    go_wp2_with fail
    refine hB.out.mono ?_
    intro e w1 hO
    obtain ⟨rfl, hR1, hg1⟩ := hO
    have hG1 := Lib.hid (HL.out.grown.trans hg1)
    have hO1 := Lib.hid (HL.out.own.keptR hg1 hlt0)
    have HR1 := Lib.hid hR1
    clear hB hg1
    have hsz1 := hG1.out.size
    by_cases hte : tagEnds l' = true
    · have HTE := Lib.hid hte
      rw [tagEnds_iff] at hte
      have hfin : attrsR l = .ok acc (blanks l') := by rw [HL.out.spec]; simp only [attrsGo]; rw [if_pos HTE.out]
      have HF := Lib.hid hfin
      clear hfin
      by_cases h0 : (blanks l').length = l'.length
      · have e0 : (((l'.length - (blanks l').length : Nat) : Int) == 0) = true := beq_iff_eq.2 (by omega)
        clear hte hR1 h0
        go_wp2
        go_ret
        rw [HF.out]
        exact ⟨_, ⟨rfl, HR1.out, hG1.out⟩, hO1.out⟩
      · have e0 : (((l'.length - (blanks l').length : Nat) : Int) == 0) = false := beq_eq_false_iff_ne.2 (by omega)
        rcases hte with h | h | ⟨r, h⟩ | ⟨r, h⟩
        · exact absurd h h0
        · have HN : Hid (Calls Try.prog 53 #[.pointer (some ⟨b, 0, none⟩)] w1 (Qt (.bool true) w1)) := by
            have := ends_any b s (blanks l') ov w1 hR1; rw [h] at this; exact this
          clear h hR1 h0
          go_wp2_with fail
          refine HN.out.mono ?_
          rintro e w' ⟨rfl, n, rfl⟩
          go_wp2
          go_ret
          rw [HF.out]
          exact ⟨_, ⟨rfl, HR1.out.drewN n, hG1.out.trans (grownN _ n _)⟩, hO1.out⟩
        · have HN : Hid (Calls Try.prog 53 #[.pointer (some ⟨b, 0, none⟩)] w1 (Qt (.bool false) w1)) := by
            have := ends_any b s (blanks l') ov w1 hR1; rw [h] at this; exact this
          have HA : Hid (∀ n, Calls Try.prog 78 #[.pointer (some ⟨b, 0, none⟩), .string ⟨#[47]⟩] (w1.drewN n) (Qt (.bool true) (w1.drewN n))) := fun n => by
            have := has_pre b s (blanks l') ov ⟨#[47]⟩ (w1.drewN n) (hR1.drewN n); rw [h, bs_one] at this; simpa [List.isPrefixOf] using this
          clear h hR1 h0
          go_wp2_with fail
          refine HN.out.mono ?_
          rintro e w' ⟨rfl, n, rfl⟩
          go_wp2_with fail
          refine (HA.out _).mono ?_
          rintro e w' ⟨rfl, n2, rfl⟩
          go_wp2
          go_ret
          rw [HF.out]
          exact ⟨_, ⟨rfl, HR1.out.drewN _, hG1.out.trans (grownN _ _ _)⟩, hO1.out⟩
        · have HN : Hid (Calls Try.prog 53 #[.pointer (some ⟨b, 0, none⟩)] w1 (Qt (.bool false) w1)) := by
            have := ends_any b s (blanks l') ov w1 hR1; rw [h] at this; exact this
          have HA : Hid (∀ n, Calls Try.prog 78 #[.pointer (some ⟨b, 0, none⟩), .string ⟨#[47]⟩] (w1.drewN n) (Qt (.bool false) (w1.drewN n))) := fun n => by
            have := has_pre b s (blanks l') ov ⟨#[47]⟩ (w1.drewN n) (hR1.drewN n); rw [h, bs_one] at this; simpa [List.isPrefixOf] using this
          have HA2 : Hid (∀ n, Calls Try.prog 78 #[.pointer (some ⟨b, 0, none⟩), .string ⟨#[62]⟩] (w1.drewN n) (Qt (.bool true) (w1.drewN n))) := fun n => by
            have := has_pre b s (blanks l') ov ⟨#[62]⟩ (w1.drewN n) (hR1.drewN n); rw [h, bs_one] at this; simpa [List.isPrefixOf] using this
          clear h hR1 h0
          go_wp2_with fail
          refine HN.out.mono ?_
          rintro e w' ⟨rfl, n, rfl⟩
          go_wp2_with fail
          refine (HA.out _).mono ?_
          rintro e w' ⟨rfl, n2, rfl⟩
          go_wp2_with fail
          refine (HA2.out _).mono ?_
          rintro e w' ⟨rfl, n3, rfl⟩
          go_wp2
          go_ret
          rw [HF.out]
          exact ⟨_, ⟨rfl, HR1.out.drewN _, hG1.out.trans (grownN _ _ _)⟩, hO1.out⟩
    · have HTE := Lib.hid hte
      rw [tagEnds_iff] at hte
      obtain ⟨h0, c, r, hcr, h47, h62⟩ : ¬ (blanks l').length = l'.length ∧ ∃ c r, blanks l' = c :: r ∧ c ≠ 47 ∧ c ≠ 62 := by
        cases hb : blanks l' with
        | nil => exact absurd (.inr (.inl hb)) hte
        | cons c r =>
          refine ⟨fun e => hte (.inl (by rw [hb]; exact e)), c, r, rfl, fun e => hte (.inr (.inr (.inl ⟨r, by rw [hb, e]⟩))), fun e => hte (.inr (.inr (.inr ⟨r, by rw [hb, e]⟩)))⟩
      have e0 : (((l'.length - (blanks l').length : Nat) : Int) == 0) = false := beq_eq_false_iff_ne.2 (by omega)
      have HN : Hid (Calls Try.prog 53 #[.pointer (some ⟨b, 0, none⟩)] w1 (Qt (.bool false) w1)) := by
        have := ends_any b s (blanks l') ov w1 hR1; rw [hcr] at this; exact this
      have HA : Hid (∀ n, Calls Try.prog 78 #[.pointer (some ⟨b, 0, none⟩), .string ⟨#[47]⟩] (w1.drewN n) (Qt (.bool false) (w1.drewN n))) := fun n => by
        have := has_pre b s (blanks l') ov ⟨#[47]⟩ (w1.drewN n) (hR1.drewN n)
        have hx : ((47 : UInt8) == c) = false := by simpa using Ne.symm h47
        rw [hcr, bs_one] at this; simpa [List.isPrefixOf, hx] using this
      have HA2 : Hid (∀ n, Calls Try.prog 78 #[.pointer (some ⟨b, 0, none⟩), .string ⟨#[62]⟩] (w1.drewN n) (Qt (.bool false) (w1.drewN n))) := fun n => by
        have := has_pre b s (blanks l') ov ⟨#[62]⟩ (w1.drewN n) (hR1.drewN n)
        have hx : ((62 : UInt8) == c) = false := by simpa using Ne.symm h62
        rw [hcr, bs_one] at this; simpa [List.isPrefixOf, hx] using this
      have hfin : attrsR l = (match attrR acc (blanks l') with
          | .ok a r => attrsGo f (acc ++ [a]) r
          | .bad e r => .bad e r) := by rw [HL.out.spec]; simp only [attrsGo]; rw [if_neg HTE.out]; rfl
      have HF := Lib.hid hfin
      have hlen1 : (blanks l').length < l'.length := by omega
      clear hfin hte hcr h0 h47 h62 hle
      have c1 := hR1.c1
      have hlt1 := hR1.box.lt
      clear hR1
      generalize blanks l' = l1 at *
      go_wp2_with fail
      refine HN.out.mono ?_
      rintro e w' ⟨rfl, n, rfl⟩
      go_wp2_with fail
      refine (HA.out _).mono ?_
      rintro e w' ⟨rfl, n2, rfl⟩
      go_wp2_with fail
      refine (HA2.out _).mono ?_
      rintro e w' ⟨rfl, n3, rfl⟩
      have hcall := rname_any b s 10 l1 ov (w1.drewN (n + n2 + n3)) (HR1.out.drewN _) hs
      cases hnm : nameR 10 l1 with
      | bad x r1 =>
        rw [hnm] at hcall
        have HNM := Lib.hid hnm
        clear hnm
        have HCL := Lib.hid hcall
        clear hcall
        go_wp2_with fail
        refine HCL.out.mono ?_
        intro e w' hO
        obtain ⟨rfl, hg⟩ : Bad x s r1 b _ e w' := hO
        go_wp2
        rw [HF.out, show attrR acc l1 = .bad x r1 by unfold attrR; rw [HNM.out]; rfl]
        exact ⟨rfl, rfl, (hG1.out.trans (grownN _ _ _)).trans hg⟩
      | ok nm r1 =>
        rw [hnm] at hcall
        have HNM := Lib.hid hnm
        clear hnm
        have HCL := Lib.hid hcall
        clear hcall
        go_wp2_with fail
        refine HCL.out.mono ?_
        intro e w2 hO
        obtain ⟨rfl, hR2, hg2⟩ : Goes (.string (bs nm)) b s r1 ov _ e w2 := hO
        have hG2 := Lib.hid ((hG1.out.trans (grownN _ _ _)).trans hg2)
        have hO2 := Lib.hid ((hO1.out.keptR (grownN w1 (n + n2 + n3) (some b)) hlt0).keptR hg2 hlt0)
        have HR2 := Lib.hid hR2
        have hsz2 := hG2.out.size
        have hS2 := Lib.hid (hO2.out.slice atC_len)
        clear hR2 hg2 c1 HCL HN HA HA2
        have hlt2 := HR2.out.box.lt
        go_wp2
        go_loopw [7, 40] (fun _ i wr => ∃ j : Nat, j ≤ acc.length ∧ i = .int .i64 j ∧ Below w2.heap.size w2 wr ∧ Hid (acc.any (fun a => a.1 == nm) = (acc.drop j).any (fun a => a.1 == nm))) (fun _ i _ => acc.length - (intOf i).toNat)
        case atStart => exact ⟨0, Nat.zero_le _, rfl, Below.refl _ _, rfl⟩
        case round =>
          obtain ⟨j, hj, rfl, hb, H⟩ := hrel
          have hszr := hb.size
          by_cases hjl : j < acc.length
          · obtain ⟨bb, oo, rfl, hbl, hcell⟩ := (hS2.out.below hb).at hjl
            have g0 : wr.cell? ⟨bb, oo + j * 2, none⟩ = some (.string (bs acc[j].1)) := by simpa using hcell 0 _ rfl
            have g1 : wr.cell? ⟨bb, oo + j * 2 + 1, none⟩ = some (.string (bs acc[j].2)) := hcell 1 _ rfl
            have HD := Lib.hid (drop_cons' hjl)
            clear hcell
            generalize acc[j] = a at *
            obtain ⟨a1, a2⟩ := a
            simp only at g0 g1
            by_cases ha : a1 = nm
            · have hq : ((bs a1).toList == (bs nm).toList) = true := by rw [ha]; simp
              have hat : attrR acc l1 = .bad 15 l1 := by
                unfold attrR; rw [HNM.out]; simp only [Res.bind]
                rw [if_pos (by rw [H.out, HD.out]; simp [ha])]
              have HAT := Lib.hid hat
              clear hat ha
              generalize bs a1 = y1 at *
              generalize bs a2 = y2 at *
              go_wp2_with fail
              refine (fail_any 15 (pos s l1) _).mono ?_
              rintro e w' ⟨rfl, rfl⟩
              go_wp2
              rw [HF.out, HAT.out]
              exact ⟨rfl, rfl, grown_below hG2.out (hb.alloc hszr _) hsz2⟩
            · have hq : ((bs a1).toList == (bs nm).toList) = false := by
                rw [ByteArray.toList_eq, ByteArray.toList_eq, bs_data, bs_data]; simpa using ha
              have hst : Hid (acc.any (fun a => a.1 == nm) = (acc.drop (j + 1)).any (fun a => a.1 == nm)) := by
                have hx : (a1 == nm) = false := by simpa using ha
                show _ = _
                rw [H.out, HD.out]; simp only [List.any_cons, hx, Bool.false_or]
              clear ha
              generalize bs a1 = y1 at *
              generalize bs a2 = y2 at *
              go_wp2
              go_roundw
              case rel => exact ⟨j + 1, by omega, by go_num, hb.alloc hszr _, hst⟩
              case measure => simp [intOf]; omega
          · have hno : acc.any (fun a => a.1 == nm) = false := by rw [H.out, List.drop_of_length_le (by omega)]; rfl
            have HNO := Lib.hid hno
            clear hno
            have hR3 := HR2.out.below hb
            have hO3 := Lib.hid (hO2.out.below hb)
            have hG3 := Lib.hid (grown_below hG2.out hb hsz2)
            have hB3 := Lib.hid (blanks_any b s r1 ov wr hR3 hs)
            have hl1 : r1.length < l1.length := nameR_less HNM.out
            have hl2 := blanks_le r1
            clear hR3 hb H hS2 hj
            go_wp2_with fail
            refine hB3.out.mono ?_
            intro e w4 hO
            obtain ⟨rfl, hR4, hg4⟩ := hO
            have hG4 := Lib.hid (hG3.out.trans hg4)
            have hO4 := Lib.hid (hO3.out.keptR hg4 hlt0)
            clear hg4 hB3
            have hcall := want_any b s 61 (blanks r1) ov w4 hR4 hs
            cases hwt : wantC 61 (blanks r1) with
            | bad x r2 =>
              rw [hwt] at hcall
              have HWT := Lib.hid hwt
              clear hwt
              have HCL := Lib.hid hcall
              clear hcall hR4
              go_wp2_with fail
              refine HCL.out.mono ?_
              intro e w' hO
              obtain ⟨rfl, hg⟩ : Bad x s r2 b _ e w' := hO
              go_wp2
              rw [HF.out, show attrR acc l1 = .bad x r2 by unfold attrR; rw [HNM.out]; simp only [Res.bind]; rw [if_neg (by rw [HNO.out]; simp), HWT.out]]
              exact ⟨rfl, rfl, hG4.out.trans hg⟩
            | ok u r2 =>
              rw [hwt] at hcall
              have HWT := Lib.hid hwt
              have hl3 : r2.length ≤ (blanks r1).length := by
                have := wantC_suf 61 (blanks r1); rw [hwt] at this; exact List.IsSuffix.length_le this
              have hl4 := blanks_le r2
              clear hwt
              have HCL := Lib.hid hcall
              clear hcall hR4
              go_wp2_with fail
              refine HCL.out.mono ?_
              intro e w5 hO
              obtain ⟨rfl, hR5, hg5⟩ : Goes (.tuple #[]) b s r2 ov w4 e w5 := hO
              have hG5 := Lib.hid (hG4.out.trans hg5)
              have hO5 := Lib.hid (hO4.out.keptR hg5 hlt0)
              have hB5 := Lib.hid (blanks_any b s r2 ov w5 hR5 hs)
              clear hg5 HCL hR5
              go_wp2_with fail
              refine hB5.out.mono ?_
              intro e w6 hO
              obtain ⟨rfl, hR6, hg6⟩ := hO
              have hG6 := Lib.hid (hG5.out.trans hg6)
              have hO6 := Lib.hid (hO5.out.keptR hg6 hlt0)
              clear hg6 hB5
              have hcall := value_any b s (blanks r2) ov w6 hR6 hs
              cases hvl : valueR (blanks r2) with
              | bad x r3 =>
                rw [hvl] at hcall
                have HVL := Lib.hid hvl
                clear hvl
                have HCL := Lib.hid hcall
                clear hcall hR6
                go_wp2_with fail
                refine HCL.out.mono ?_
                intro e w' hO
                obtain ⟨rfl, hg⟩ : Bad x s r3 b _ e w' := hO
                go_wp2
                rw [HF.out, show attrR acc l1 = .bad x r3 by unfold attrR; rw [HNM.out]; simp only [Res.bind]; rw [if_neg (by rw [HNO.out]; simp), HWT.out]; simp only; rw [HVL.out]; rfl]
                exact ⟨rfl, rfl, hG6.out.trans hg⟩
              | ok vt r3 =>
                rw [hvl] at hcall
                have HVL := Lib.hid hvl
                clear hvl
                have HCL := Lib.hid hcall
                clear hcall hR6
                go_wp2_with fail
                refine HCL.out.mono ?_
                intro e w7 hO
                obtain ⟨rfl, hR7, hg7⟩ : Goes (.string (bs vt)) b s r3 ov w6 e w7 := hO
                have hG7 := Lib.hid (hG6.out.trans hg7)
                have hO7 := Lib.hid (hO6.out.keptR hg7 hlt0)
                have HR7 := Lib.hid hR7
                have hsz7 := hG7.out.size
                have hat : attrR acc l1 = .ok (nm, vt) r3 := by
                  unfold attrR; rw [HNM.out]; simp only [Res.bind]; rw [if_neg (by rw [HNO.out]; simp), HWT.out]; simp only; rw [HVL.out]; rfl
                have HAT := Lib.hid hat
                have hl5 := attrR_less hat
                clear hg7 HCL hR7 hat
                go_wp2_with (at_builtin; refine wpList_append_slice _ rfl _ _ 32 rfl w.heap.size 43 Try.underlying32 info_attr rfl (by decide) atC_len (.slice ao acc.length cap) acc rfl (hO7.out.alloc _) _ [(nm, vt)] rfl (sliceLit atC_len w7 [(nm, vt)] _ _ 1 rfl rfl (by simp [maxLen])) (fun y _ => atC_one) (by simp; omega) (by decide) (by simp; omega) ?_; intro v8 w8 hown8 hgrow8 hloc8)
                have hb8 := ((Below.refl w.heap.size w7).alloc hsz7 (.cells (([(nm, vt)] : List At2).flatMap atC).toArray 43)).grown hgrow8 (by simp; omega) (fun k hk => (hO7.out.lt k hk).1)
                have hnew : Atts w w8 b s ov v8 l r3 (acc ++ [(nm, vt)]) (f - 1) := by
                  refine ⟨HR7.out.belowB hb8 hlt0, grown_below hG7.out hb8 (Nat.le_refl _), hown8, ?_, ?_, ?_⟩
                  · rw [HF.out, HAT.out]; simp only
                    obtain ⟨f', rfl⟩ : ∃ f', f = f' + 1 := ⟨f - 1, by have := HL.out.fuel; omega⟩
                    rfl
                  · have := HL.out.fuel; omega
                  · have := HL.out.len; simp; omega
                go_wp2
                go_roundw
                case rel => exact ⟨_, _, _, hnew⟩
                case measure =>
                  rw [HL.out.rd.place, hnew.rd.place]
                  have := pos_add HL.out.rd.suf
                  have := pos_add hnew.rd.suf
                  omega

end Go.Proofs.Ytpchljiiappmnaa
