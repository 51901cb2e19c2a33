/- The walks of the program's reader's value and isHead; their conditions stand in the theorems. -/
import Derived.Test.YtphaeegbmfpcgaaGreatDoorFB03
import Derived.Test.YtphaeegbmfpcgaaGreatDoorFB01

namespace Go.Proofs.YtphaeegbmfpcgaaGreatDoor
open Go Go.RowKit

set_option maxRecDepth 100000 in
set_option maxHeartbeats 4000000 in
theorem value_any (b : Nat) (s : S) (l : Bs) (ov : Value) (w : World) (h : Rd w b s l ov) (hs : s.size ≤ 1000000) :
    Calls Tryz.prog 193 #[.pointer (some ⟨b, 0, none⟩)] w (Out (fun t => .string (bs t)) b s ov w (valueR l)) := by
 have c0 := h.c0
 have c1 := h.c1
 have f1 := h.f1
 have hlt := h.box.lt
 have HR := Lib.hid h
 cases l with
 | nil =>
  have HN : Hid (Calls Tryz.prog 120 #[.pointer (some ⟨b, 0, none⟩)] w (Qt (.bool true) w)) := ends_any b s [] ov w h
  clear h
  go_enter Tryz.func193, Tryz.ntmps193
  go_wp2_with fail
  refine HN.out.mono ?_
  rintro e w' ⟨rfl, n, rfl⟩
  go_wp2_with fail
  refine (fail_any _ _ _).mono ?_
  rintro e w' ⟨rfl, rfl⟩
  go_wp2
  exact ⟨rfl, rfl, grownN w n _⟩
 | cons c r =>
  have HN : Hid (Calls Tryz.prog 120 #[.pointer (some ⟨b, 0, none⟩)] w (Qt (.bool false) w)) := ends_any b s (c :: r) ov w h
  have hpl := pos_lt h.suf
  have hg := pos_get h.suf hpl
  have HC := Lib.hid (pos_cons h.suf)
  have HS := Lib.hid (suf_tail h.suf)
  clear h
  generalize hpp : pos s (c :: r) = p at *
  have HPP := Lib.hid hpp
  clear hpp
  have hpi : (p : Int) < (s.size : Int) := by omega
  have hpb : (p : Int) + 1 ≤ 1000000 := by omega
  have HG := Lib.hid hg
  by_cases hq : c = 34 ∨ c = 39
  rotate_left
  · have e1 : (((s[p].toNat : Nat) : Int) != 34) = true := by
     rw [hg, bne_iff_ne]; intro e; exact hq (.inl (UInt8.toNat_inj.1 (by simpa using (by omega : c.toNat = 34))))
    have e2 : (((s[p].toNat : Nat) : Int) != 39) = true := by
     rw [hg, bne_iff_ne]; intro e; exact hq (.inr (UInt8.toNat_inj.1 (by simpa using (by omega : c.toNat = 39))))
    have HQ : Hid (valueR (c :: r) = .bad 10 (c :: r)) := by show _ = _; simp only [valueR]; rw [if_neg hq]
    clear hq hg
    go_enter Tryz.func193, Tryz.ntmps193
    go_wp2_with fail
    refine HN.out.mono ?_
    rintro e w' ⟨rfl, n, rfl⟩
    go_wp2
    go_quiet (fail)
    go_wp2_with fail
    refine (fail_any 10 p _).mono ?_
    rintro e w' ⟨rfl, rfl⟩
    go_wp2
    rw [HQ.out]
    exact ⟨rfl, by rw [HPP.out], grownN w _ _⟩
  · have hv : ((((s[p].toNat : Nat) : Int) != 34) = false) ∨ ((((s[p].toNat : Nat) : Int) != 34) = true ∧ (((s[p].toNat : Nat) : Int) != 39) = false) := by
     rcases hq with h | h
     · left; rw [hg, h]; decide
     · right; rw [hg, h]; decide
    have HQ : Hid (valueR (c :: r) = (letters c r).bind fun s r => match r with
     | [] => .bad 13 []
     | _ :: r' => .ok s r') := by show _ = _; simp only [valueR]; rw [if_pos hq]; rfl
    have HLT : Hid (∀ w, Rd w b s r ov → Calls Tryz.prog 160 #[.pointer (some ⟨b, 0, none⟩), .int .u8 s[p].toNat] w (Out (fun t => .string (bs t)) b s ov w (letters c r))) := fun w h => by
     have := letters_any b s s[p] r ov w h hs
     rw [show letters s[p] r = letters c r by rw [hg]] at this; exact this
    clear hq hg
    have main : ∀ n, Rd ((w.drewN n).setCell ⟨b, 1, none⟩ (.int .i64 ((p : Int) + 1))) b s r ov := fun n => (HR.out.drewN n).move HS.out (by rw [HC.out]; rfl)
    have HM := Lib.hid main
    clear main
    rcases hv with e1 | ⟨e1, e2⟩
    all_goals
     go_enter Tryz.func193, Tryz.ntmps193
     go_wp2_with fail
     refine HN.out.mono ?_
     rintro e w' ⟨rfl, n, rfl⟩
     go_wp2
     go_quiet (fail)
     go_wp2_with fail
     refine Calls.world ?_
     intro W hW
     have hR : Rd W b s r ov := by rw [hW]; exact HM.out _
     have hG : Hid (w.grownBy W (some b)) := by rw [hW]; exact (grownN w _ _).trans (setCell_grown _ b 1 _)
     clear hW c0 c1 f1 e1
     have hcall := HLT.out W hR
     cases hl : letters c r with
     | bad x r' =>
      rw [hl] at hcall
      have HL := Lib.hid hl
      clear hl
      refine hcall.mono ?_
      intro e w' hO
      obtain ⟨rfl, hg⟩ : Bad x s r' b W e w' := hO
      go_wp2
      rw [HQ.out, HL.out]
      exact ⟨rfl, rfl, hG.out.trans hg⟩
     | ok t r' =>
      rw [hl] at hcall
      have HL := Lib.hid hl
      clear hl
      refine hcall.mono ?_
      intro e w2 hO
      obtain ⟨rfl, hR2, hg⟩ : Goes (.string (bs t)) b s r' ov W e w2 := hO
      have HG2 := Lib.hid (hG.out.trans hg)
      have c1 := hR2.c1
      have f1 := hR2.f1
      have hlt2 := hR2.box.lt
      have HR2 := Lib.hid hR2
      clear hR hg
      cases r' with
      | nil =>
       have HN2 : Hid (Calls Tryz.prog 120 #[.pointer (some ⟨b, 0, none⟩)] w2 (Qt (.bool true) w2)) := ends_any b s [] ov w2 hR2
       clear hR2
       go_wp2_with fail
       refine HN2.out.mono ?_
       rintro e w' ⟨rfl, n, rfl⟩
       go_wp2_with fail
       refine (fail_any _ _ _).mono ?_
       rintro e w' ⟨rfl, rfl⟩
       go_wp2
       rw [HQ.out, HL.out]
       exact ⟨rfl, rfl, HG2.out.trans (grownN _ _ _)⟩
      | cons x r2 =>
       have HN2 : Hid (Calls Tryz.prog 120 #[.pointer (some ⟨b, 0, none⟩)] w2 (Qt (.bool false) w2)) := ends_any b s (x :: r2) ov w2 hR2
       have hpl2 := pos_lt hR2.suf
       have HC2 := Lib.hid (pos_cons hR2.suf)
       have HS2 := Lib.hid (suf_tail hR2.suf)
       clear hR2
       generalize pos s (x :: r2) = p2 at *
       have hpb2 : (p2 : Int) + 1 ≤ 1000000 := by omega
       go_wp2_with fail
       refine HN2.out.mono ?_
       rintro e w' ⟨rfl, n, rfl⟩
       go_wp2
       go_ret
       rw [HQ.out, HL.out]
       exact ⟨rfl, (HR2.out.drewN _).move HS2.out (v := .int .i64 ((p2 : Int) + 1)) (by rw [HC2.out]; rfl), (HG2.out.trans (grownN _ _ _)).trans (setCell_grown _ b 1 _)⟩
set_option maxRecDepth 100000 in
set_option maxHeartbeats 2000000 in
theorem isHead_any (b : Nat) (s : S) (l : Bs) (ov : Value) (w : World) (h : Rd w b s l ov) (hs : s.size ≤ 1000000) :
    Calls Tryz.prog 155 #[.pointer (some ⟨b, 0, none⟩)] w (Qt (.bool (isHead l)) w) := by
 have HRT := Lib.hid (rest_any b s l ov w h)
 have hll : l.length ≤ 1000000 := by have := pos_add h.suf; omega
 have hz := bs_size l
 have HB : Hid ((bs l).data.toList = l) := bs_data l
 clear h
 generalize bs l = u at *
 have hul : u.size ≤ 1000000 := by omega
 have HZ := Lib.hid hz
 cases hp : sHead.isPrefixOf l
 · have HP : Hid ((⟨#[60, 63, 120, 109, 108]⟩ : S).data.toList.isPrefixOf u.data.toList = false) := by rw [HB.out]; exact hp
   have HO : Hid (isHead l = false) := by show _ = _; unfold isHead; rw [hp]; rfl
   clear hp hz
   go_enter Tryz.func155, Tryz.ntmps155
   go_wp2_with fail
   refine HRT.out.mono ?_
   rintro e w' ⟨rfl, n, rfl⟩
   go_wp2_with fail
   refine (hasPrefix_any _ _ _).mono ?_
   rintro e w' ⟨rfl, rfl⟩
   rw [HP.out]
   go_wp2
   go_ret
   exact ⟨by rw [HO.out]; rfl, ⟨_, rfl⟩⟩
 · have HP : Hid ((⟨#[60, 63, 120, 109, 108]⟩ : S).data.toList.isPrefixOf u.data.toList = true) := by rw [HB.out]; exact hp
   by_cases h5 : 5 < u.size
   · have h5i : (5 : Int) < (u.size : Int) := by omega
     have hc : l[5]? = some u[5] := by
      have := congrArg (·[0]?) (drop_byte u 5 h5)
      rw [HB.out] at this; simpa using this
     have HO : Hid (isHead l = (cBlank u[5] || u[5] == 63)) := by show _ = _; unfold isHead; rw [hp, hc]; rfl
     clear hp hz hc
     cases hb : cBlank u[5]
     all_goals
      have HI := Lib.hid hb
      clear hb
      go_enter Tryz.func155, Tryz.ntmps155
      go_wp2_with fail
      refine HRT.out.mono ?_
      rintro e w' ⟨rfl, n, rfl⟩
      go_wp2_with fail
      refine (hasPrefix_any _ _ _).mono ?_
      rintro e w' ⟨rfl, rfl⟩
      rw [HP.out]
      go_wp2_with (go_at_call 191; refine (isBlank_any _ _).mono ?_; rintro e w' ⟨rfl, rfl⟩; rw [HI.out])
      go_ret
      refine ⟨ret_bool ?_, ⟨_, rfl⟩⟩
      rw [HO.out, HI.out]
     · simp only [Bool.false_or]
       rw [Bool.eq_iff_iff]; simp [← UInt8.toNat_inj]; omega
     · rfl
   · have h5i : ¬ (5 : Int) < (u.size : Int) := by omega
     have HO : Hid (isHead l = false) := by show _ = _; unfold isHead; rw [hp, List.getElem?_eq_none (by omega)]; rfl
     clear hp hz
     go_enter Tryz.func155, Tryz.ntmps155
     go_wp2_with fail
     refine HRT.out.mono ?_
     rintro e w' ⟨rfl, n, rfl⟩
     go_wp2_with fail
     refine (hasPrefix_any _ _ _).mono ?_
     rintro e w' ⟨rfl, rfl⟩
     rw [HP.out]
     go_wp2
     go_ret
     exact ⟨by rw [HO.out]; rfl, ⟨_, rfl⟩⟩

end Go.Proofs.YtphaeegbmfpcgaaGreatDoor

/- The walk of the program's reader's attrs; its conditions stand in the theorem. -/

namespace Go.Proofs.YtphaeegbmfpcgaaGreatDoor
open Go Go.RowKit

def atC (a : At2) : List Value := [.string (bs a.1), .string (bs a.2)]
theorem atC_len (a : At2) : (atC a).length = 2 := rfl
theorem atC_one {a : At2} : ∀ u ∈ atC a, u.oneCell' = true := by intro u hu; simp [atC] at hu; rcases hu with rfl | rfl <;> rfl
theorem info_attr : (Tryz.prog.info? 176).map (fun i => (i.zero, i.size, i.bytes)) = some (some (.agg #[.string ⟨#[]⟩, .string ⟨#[]⟩]), 2, 32) := by kernel_rfl
theorem tagEnds_iff (l : Bs) : tagEnds l = true ↔ ((blanks l).length = l.length ∨ blanks l = [] ∨ (∃ r, blanks l = 47 :: r) ∨ ∃ r, blanks l = 62 :: r) := by
 unfold tagEnds
 cases blanks l with
 | nil => simp
 | cons c r => simp [or_assoc]
theorem nameR_less {e : Int} {l nm r : Bs} (h : nameR e l = .ok nm r) : r.length < l.length := by
 cases l with
 | nil => cases h
 | cons c l =>
  simp only [nameR] at h
  split at h
  · cases h
  · cases h; rw [List.length_drop]; simp only [List.length_cons]; omega
theorem attrR_less {acc : List At2} {l : Bs} {a : At2} {r : Bs} (h : attrR acc l = .ok a r) : r.length < l.length := by
 unfold attrR at h
 cases hn : nameR 10 l with
 | bad e r1 => rw [hn] at h; cases h
 | ok nm r1 =>
  rw [hn] at h
  have h1 := nameR_less hn
  simp only [Res.bind] at h
  split at h
  · cases h
  · have h2 := wantC_suf 61 (blanks r1)
    have h0 := blanks_le r1
    cases hw : wantC 61 (blanks r1) with
    | bad e r2 => rw [hw] at h; cases h
    | ok u r2 =>
     rw [hw] at h h2
     have h2' : r2.length ≤ (blanks r1).length := List.IsSuffix.length_le h2
     have h3 := valueR_suf (blanks r2)
     have h4 := blanks_le r2
     simp only at h
     cases hv : valueR (blanks r2) with
     | bad e r3 => rw [hv] at h; cases h
     | ok v r3 =>
      rw [hv] at h h3
      have h3' : r3.length ≤ (blanks r2).length := List.IsSuffix.length_le h3
      cases h
      omega
/-- The post of a method that makes attributes. -/
def OutA (b : Nat) (s : S) (ov : Value) (w : World) : Res (List At2) → Ending → World → Prop
 | .ok a r => fun e w' => ∃ v, Goes v b s r ov w e w' ∧ Owns w.heap.size 176 2 atC w' v a
 | .bad e r => Bad e s r b w
/-- What the loop over attributes has done so far. -/
structure Atts (w wr : World) (b : Nat) (s : S) (ov v : Value) (l l' : Bs) (acc : List At2) (f : Nat) : Prop where
 rd : Rd wr b s l' ov
 grown : w.grownBy wr (some b)
 own : Owns w.heap.size 176 2 atC wr v acc
 spec : attrsR l = attrsGo (f + 1) acc l'
 fuel : l'.length ≤ f
 len : acc.length + l'.length ≤ l.length
set_option maxRecDepth 100000 in
set_option maxHeartbeats 8000000 in
theorem attrs_any (b : Nat) (s : S) (l : Bs) (ov : Value) (w : World) (h : Rd w b s l ov) (hs : s.size ≤ 1000000) :
    Calls Tryz.prog 159 #[.pointer (some ⟨b, 0, none⟩)] w (OutA b s ov w (attrsR l)) := by
 have hlt0 := h.box.lt
 have hll : l.length ≤ 1000000 := by have := pos_add h.suf; omega
 have hI : Atts w w b s ov (.slice none 0 0) l l [] l.length := ⟨h, World.grownBy.refl _ _, Owns.nil, rfl, Nat.le_refl _, by simp⟩
 have HI := Lib.hid hI
 clear hI h
 go_enter Tryz.func159, Tryz.ntmps159
 go_wp2
 go_loopw [2] (fun v wr => ∃ l' acc f, Atts w wr b s ov v l l' acc f) (fun _ wr => s.size - (placeOf wr b).toNat)
 case atStart => exact ⟨l, [], l.length, HI.out⟩
 case round =>
  clear HI
  obtain ⟨l', acc, f, hL⟩ := hrel
  have HL := Lib.hid hL
  have hsz := hL.grown.size
  have hB := Lib.hid (blanks_any b s l' ov wr hL.rd hs)
  have hle := blanks_le l'
  have hll2 : acc.length + l'.length ≤ 1000000 := by have := hL.len; omega
  obtain ⟨ao, cap, rfl⟩ := hL.own.shape
  clear hL
  go_wp2_with fail
  refine hB.out.mono ?_
  intro e w1 hO
  obtain ⟨rfl, hR1, hg1⟩ := hO
  have hG1 := Lib.hid (HL.out.grown.trans hg1)
  have hO1 := Lib.hid (HL.out.own.keptR hg1 hlt0)
  have HR1 := Lib.hid hR1
  clear hB hg1
  have hsz1 := hG1.out.size
  by_cases hte : tagEnds l' = true
  · have HTE := Lib.hid hte
    rw [tagEnds_iff] at hte
    have hfin : attrsR l = .ok acc (blanks l') := by rw [HL.out.spec]; simp only [attrsGo]; rw [if_pos HTE.out]
    have HF := Lib.hid hfin
    clear hfin
    by_cases h0 : (blanks l').length = l'.length
    · have e0 : (((l'.length - (blanks l').length : Nat) : Int) == 0) = true := beq_iff_eq.2 (by omega)
      clear hte hR1 h0
      go_wp2
      go_ret
      rw [HF.out]
      exact ⟨_, ⟨rfl, HR1.out, hG1.out⟩, hO1.out⟩
    · have e0 : (((l'.length - (blanks l').length : Nat) : Int) == 0) = false := beq_eq_false_iff_ne.2 (by omega)
      rcases hte with h | h | ⟨r, h⟩ | ⟨r, h⟩
      · exact absurd h h0
      · have HN : Hid (Calls Tryz.prog 120 #[.pointer (some ⟨b, 0, none⟩)] w1 (Qt (.bool true) w1)) := by
         have := ends_any b s (blanks l') ov w1 hR1; rw [h] at this; exact this
        clear h hR1 h0
        go_wp2_with fail
        refine HN.out.mono ?_
        rintro e w' ⟨rfl, n, rfl⟩
        go_wp2
        go_ret
        rw [HF.out]
        exact ⟨_, ⟨rfl, HR1.out.drewN n, hG1.out.trans (grownN _ n _)⟩, hO1.out⟩
      · have HN : Hid (Calls Tryz.prog 120 #[.pointer (some ⟨b, 0, none⟩)] w1 (Qt (.bool false) w1)) := by
         have := ends_any b s (blanks l') ov w1 hR1; rw [h] at this; exact this
        have HA : Hid (∀ n, Calls Tryz.prog 153 #[.pointer (some ⟨b, 0, none⟩), .string ⟨#[47]⟩] (w1.drewN n) (Qt (.bool true) (w1.drewN n))) := fun n => by
         have := has_pre b s (blanks l') ov ⟨#[47]⟩ (w1.drewN n) (hR1.drewN n); rw [h, bs_one] at this; simpa [List.isPrefixOf] using this
        clear h hR1 h0
        go_wp2_with fail
        refine HN.out.mono ?_
        rintro e w' ⟨rfl, n, rfl⟩
        go_wp2_with fail
        refine (HA.out _).mono ?_
        rintro e w' ⟨rfl, n2, rfl⟩
        go_wp2
        go_ret
        rw [HF.out]
        exact ⟨_, ⟨rfl, HR1.out.drewN _, hG1.out.trans (grownN _ _ _)⟩, hO1.out⟩
      · have HN : Hid (Calls Tryz.prog 120 #[.pointer (some ⟨b, 0, none⟩)] w1 (Qt (.bool false) w1)) := by
         have := ends_any b s (blanks l') ov w1 hR1; rw [h] at this; exact this
        have HA : Hid (∀ n, Calls Tryz.prog 153 #[.pointer (some ⟨b, 0, none⟩), .string ⟨#[47]⟩] (w1.drewN n) (Qt (.bool false) (w1.drewN n))) := fun n => by
         have := has_pre b s (blanks l') ov ⟨#[47]⟩ (w1.drewN n) (hR1.drewN n); rw [h, bs_one] at this; simpa [List.isPrefixOf] using this
        have HA2 : Hid (∀ n, Calls Tryz.prog 153 #[.pointer (some ⟨b, 0, none⟩), .string ⟨#[62]⟩] (w1.drewN n) (Qt (.bool true) (w1.drewN n))) := fun n => by
         have := has_pre b s (blanks l') ov ⟨#[62]⟩ (w1.drewN n) (hR1.drewN n); rw [h, bs_one] at this; simpa [List.isPrefixOf] using this
        clear h hR1 h0
        go_wp2_with fail
        refine HN.out.mono ?_
        rintro e w' ⟨rfl, n, rfl⟩
        go_wp2_with fail
        refine (HA.out _).mono ?_
        rintro e w' ⟨rfl, n2, rfl⟩
        go_wp2_with fail
        refine (HA2.out _).mono ?_
        rintro e w' ⟨rfl, n3, rfl⟩
        go_wp2
        go_ret
        rw [HF.out]
        exact ⟨_, ⟨rfl, HR1.out.drewN _, hG1.out.trans (grownN _ _ _)⟩, hO1.out⟩
  · have HTE := Lib.hid hte
    rw [tagEnds_iff] at hte
    obtain ⟨h0, c, r, hcr, h47, h62⟩ : ¬ (blanks l').length = l'.length ∧ ∃ c r, blanks l' = c :: r ∧ c ≠ 47 ∧ c ≠ 62 := by
     cases hb : blanks l' with
     | nil => exact absurd (.inr (.inl hb)) hte
     | cons c r =>
      refine ⟨fun e => hte (.inl (by rw [hb]; exact e)), c, r, rfl, fun e => hte (.inr (.inr (.inl ⟨r, by rw [hb, e]⟩))), fun e => hte (.inr (.inr (.inr ⟨r, by rw [hb, e]⟩)))⟩
    have e0 : (((l'.length - (blanks l').length : Nat) : Int) == 0) = false := beq_eq_false_iff_ne.2 (by omega)
    have HN : Hid (Calls Tryz.prog 120 #[.pointer (some ⟨b, 0, none⟩)] w1 (Qt (.bool false) w1)) := by
     have := ends_any b s (blanks l') ov w1 hR1; rw [hcr] at this; exact this
    have HA : Hid (∀ n, Calls Tryz.prog 153 #[.pointer (some ⟨b, 0, none⟩), .string ⟨#[47]⟩] (w1.drewN n) (Qt (.bool false) (w1.drewN n))) := fun n => by
     have := has_pre b s (blanks l') ov ⟨#[47]⟩ (w1.drewN n) (hR1.drewN n)
     have hx : ((47 : UInt8) == c) = false := by simpa using Ne.symm h47
     rw [hcr, bs_one] at this; simpa [List.isPrefixOf, hx] using this
    have HA2 : Hid (∀ n, Calls Tryz.prog 153 #[.pointer (some ⟨b, 0, none⟩), .string ⟨#[62]⟩] (w1.drewN n) (Qt (.bool false) (w1.drewN n))) := fun n => by
     have := has_pre b s (blanks l') ov ⟨#[62]⟩ (w1.drewN n) (hR1.drewN n)
     have hx : ((62 : UInt8) == c) = false := by simpa using Ne.symm h62
     rw [hcr, bs_one] at this; simpa [List.isPrefixOf, hx] using this
    have hfin : attrsR l = (match attrR acc (blanks l') with
        | .ok a r => attrsGo f (acc ++ [a]) r
        | .bad e r => .bad e r) := by rw [HL.out.spec]; simp only [attrsGo]; rw [if_neg HTE.out]; rfl
    have HF := Lib.hid hfin
    have hlen1 : (blanks l').length < l'.length := by omega
    clear hfin hte hcr h0 h47 h62 hle
    have c1 := hR1.c1
    have hlt1 := hR1.box.lt
    clear hR1
    generalize blanks l' = l1 at *
    go_wp2_with fail
    refine HN.out.mono ?_
    rintro e w' ⟨rfl, n, rfl⟩
    go_wp2_with fail
    refine (HA.out _).mono ?_
    rintro e w' ⟨rfl, n2, rfl⟩
    go_wp2_with fail
    refine (HA2.out _).mono ?_
    rintro e w' ⟨rfl, n3, rfl⟩
    have hcall := rname_any b s 10 l1 ov (w1.drewN (n + n2 + n3)) (HR1.out.drewN _) hs
    cases hnm : nameR 10 l1 with
    | bad x r1 =>
     rw [hnm] at hcall
     have HNM := Lib.hid hnm
     clear hnm
     have HCL := Lib.hid hcall
     clear hcall
     go_wp2_with fail
     refine HCL.out.mono ?_
     intro e w' hO
     obtain ⟨rfl, hg⟩ : Bad x s r1 b _ e w' := hO
     go_wp2
     rw [HF.out, show attrR acc l1 = .bad x r1 by unfold attrR; rw [HNM.out]; rfl]
     exact ⟨rfl, rfl, (hG1.out.trans (grownN _ _ _)).trans hg⟩
    | ok nm r1 =>
     rw [hnm] at hcall
     have HNM := Lib.hid hnm
     clear hnm
     have HCL := Lib.hid hcall
     clear hcall
     go_wp2_with fail
     refine HCL.out.mono ?_
     intro e w2 hO
     obtain ⟨rfl, hR2, hg2⟩ : Goes (.string (bs nm)) b s r1 ov _ e w2 := hO
     have hG2 := Lib.hid ((hG1.out.trans (grownN _ _ _)).trans hg2)
     have hO2 := Lib.hid ((hO1.out.keptR (grownN w1 (n + n2 + n3) (some b)) hlt0).keptR hg2 hlt0)
     have HR2 := Lib.hid hR2
     have hsz2 := hG2.out.size
     have hS2 := Lib.hid (hO2.out.slice atC_len)
     clear hR2 hg2 c1 HCL HN HA HA2
     have hlt2 := HR2.out.box.lt
     go_wp2
     go_loopw [7, 40] (fun _ i wr => ∃ j : Nat, j ≤ acc.length ∧ i = .int .i64 j ∧ Below w2.heap.size w2 wr ∧ Hid (acc.any (fun a => a.1 == nm) = (acc.drop j).any (fun a => a.1 == nm))) (fun _ i _ => acc.length - (intOf i).toNat)
     case atStart => exact ⟨0, Nat.zero_le _, rfl, Below.refl _ _, rfl⟩
     case round =>
      obtain ⟨j, hj, rfl, hb, H⟩ := hrel
      have hszr := hb.size
      by_cases hjl : j < acc.length
      · obtain ⟨bb, oo, rfl, hbl, hcell⟩ := (hS2.out.below hb).at hjl
        have g0 : wr.cell? ⟨bb, oo + j * 2, none⟩ = some (.string (bs acc[j].1)) := by simpa using hcell 0 _ rfl
        have g1 : wr.cell? ⟨bb, oo + j * 2 + 1, none⟩ = some (.string (bs acc[j].2)) := hcell 1 _ rfl
        have HD := Lib.hid (drop_cons' hjl)
        clear hcell
        generalize acc[j] = a at *
        obtain ⟨a1, a2⟩ := a
        simp only at g0 g1
        by_cases ha : a1 = nm
        · have hq : ((bs a1).toList == (bs nm).toList) = true := by rw [ha]; simp
          have hat : attrR acc l1 = .bad 15 l1 := by
           unfold attrR; rw [HNM.out]; simp only [Res.bind]
           rw [if_pos (by rw [H.out, HD.out]; simp [ha])]
          have HAT := Lib.hid hat
          clear hat ha
          generalize bs a1 = y1 at *
          generalize bs a2 = y2 at *
          go_wp2_with fail
          refine (fail_any 15 (pos s l1) _).mono ?_
          rintro e w' ⟨rfl, rfl⟩
          go_wp2
          rw [HF.out, HAT.out]
          exact ⟨rfl, rfl, grown_below hG2.out (hb.alloc hszr _) hsz2⟩
        · have hq : ((bs a1).toList == (bs nm).toList) = false := by
           rw [ByteArray.toList_eq, ByteArray.toList_eq, bs_data, bs_data]; simpa using ha
          have hst : Hid (acc.any (fun a => a.1 == nm) = (acc.drop (j + 1)).any (fun a => a.1 == nm)) := by
           have hx : (a1 == nm) = false := by simpa using ha
           show _ = _
           rw [H.out, HD.out]; simp only [List.any_cons, hx, Bool.false_or]
          clear ha
          generalize bs a1 = y1 at *
          generalize bs a2 = y2 at *
          go_wp2
          go_roundw
          case rel => exact ⟨j + 1, by omega, by go_num, hb.alloc hszr _, hst⟩
          case measure => simp [intOf]; omega
      · have hno : acc.any (fun a => a.1 == nm) = false := by rw [H.out, List.drop_of_length_le (by omega)]; rfl
        have HNO := Lib.hid hno
        clear hno
        have hR3 := HR2.out.below hb
        have hO3 := Lib.hid (hO2.out.below hb)
        have hG3 := Lib.hid (grown_below hG2.out hb hsz2)
        have hB3 := Lib.hid (blanks_any b s r1 ov wr hR3 hs)
        have hl1 : r1.length < l1.length := nameR_less HNM.out
        have hl2 := blanks_le r1
        clear hR3 hb H hS2 hj
        go_wp2_with fail
        refine hB3.out.mono ?_
        intro e w4 hO
        obtain ⟨rfl, hR4, hg4⟩ := hO
        have hG4 := Lib.hid (hG3.out.trans hg4)
        have hO4 := Lib.hid (hO3.out.keptR hg4 hlt0)
        clear hg4 hB3
        have hcall := want_any b s 61 (blanks r1) ov w4 hR4 hs
        cases hwt : wantC 61 (blanks r1) with
        | bad x r2 =>
         rw [hwt] at hcall
         have HWT := Lib.hid hwt
         clear hwt
         have HCL := Lib.hid hcall
         clear hcall hR4
         go_wp2_with fail
         refine HCL.out.mono ?_
         intro e w' hO
         obtain ⟨rfl, hg⟩ : Bad x s r2 b _ e w' := hO
         go_wp2
         rw [HF.out, show attrR acc l1 = .bad x r2 by unfold attrR; rw [HNM.out]; simp only [Res.bind]; rw [if_neg (by rw [HNO.out]; simp), HWT.out]]
         exact ⟨rfl, rfl, hG4.out.trans hg⟩
        | ok u r2 =>
         rw [hwt] at hcall
         have HWT := Lib.hid hwt
         have hl3 : r2.length ≤ (blanks r1).length := by
          have := wantC_suf 61 (blanks r1); rw [hwt] at this; exact List.IsSuffix.length_le this
         have hl4 := blanks_le r2
         clear hwt
         have HCL := Lib.hid hcall
         clear hcall hR4
         go_wp2_with fail
         refine HCL.out.mono ?_
         intro e w5 hO
         obtain ⟨rfl, hR5, hg5⟩ : Goes (.tuple #[]) b s r2 ov w4 e w5 := hO
         have hG5 := Lib.hid (hG4.out.trans hg5)
         have hO5 := Lib.hid (hO4.out.keptR hg5 hlt0)
         have hB5 := Lib.hid (blanks_any b s r2 ov w5 hR5 hs)
         clear hg5 HCL hR5
         go_wp2_with fail
         refine hB5.out.mono ?_
         intro e w6 hO
         obtain ⟨rfl, hR6, hg6⟩ := hO
         have hG6 := Lib.hid (hG5.out.trans hg6)
         have hO6 := Lib.hid (hO5.out.keptR hg6 hlt0)
         clear hg6 hB5
         have hcall := value_any b s (blanks r2) ov w6 hR6 hs
         cases hvl : valueR (blanks r2) with
         | bad x r3 =>
          rw [hvl] at hcall
          have HVL := Lib.hid hvl
          clear hvl
          have HCL := Lib.hid hcall
          clear hcall hR6
          go_wp2_with fail
          refine HCL.out.mono ?_
          intro e w' hO
          obtain ⟨rfl, hg⟩ : Bad x s r3 b _ e w' := hO
          go_wp2
          rw [HF.out, show attrR acc l1 = .bad x r3 by unfold attrR; rw [HNM.out]; simp only [Res.bind]; rw [if_neg (by rw [HNO.out]; simp), HWT.out]; simp only; rw [HVL.out]; rfl]
          exact ⟨rfl, rfl, hG6.out.trans hg⟩
         | ok vt r3 =>
          rw [hvl] at hcall
          have HVL := Lib.hid hvl
          clear hvl
          have HCL := Lib.hid hcall
          clear hcall hR6
          go_wp2_with fail
          refine HCL.out.mono ?_
          intro e w7 hO
          obtain ⟨rfl, hR7, hg7⟩ : Goes (.string (bs vt)) b s r3 ov w6 e w7 := hO
          have hG7 := Lib.hid (hG6.out.trans hg7)
          have hO7 := Lib.hid (hO6.out.keptR hg7 hlt0)
          have HR7 := Lib.hid hR7
          have hsz7 := hG7.out.size
          have hat : attrR acc l1 = .ok (nm, vt) r3 := by
           unfold attrR; rw [HNM.out]; simp only [Res.bind]; rw [if_neg (by rw [HNO.out]; simp), HWT.out]; simp only; rw [HVL.out]; rfl
          have HAT := Lib.hid hat
          have hl5 := attrR_less hat
          clear hg7 HCL hR7 hat
          go_wp2_with (at_builtin; refine wpList_append_slice _ rfl _ _ 107 rfl w.heap.size 176 Tryz.underlying107 info_attr rfl (by decide) atC_len (.slice ao acc.length cap) acc rfl (hO7.out.alloc _) _ [(nm, vt)] rfl (sliceLit atC_len w7 [(nm, vt)] _ _ 1 rfl rfl (by simp [maxLen])) (fun y _ => atC_one) (by simp; omega) (by decide) (by simp; omega) ?_; intro v8 w8 hown8 hgrow8 hloc8)
          have hb8 := ((Below.refl w.heap.size w7).alloc hsz7 (.cells (([(nm, vt)] : List At2).flatMap atC).toArray 176)).grown hgrow8 (by simp; omega) (fun k hk => (hO7.out.lt k hk).1)
          have hnew : Atts w w8 b s ov v8 l r3 (acc ++ [(nm, vt)]) (f - 1) := by
           refine ⟨HR7.out.belowB hb8 hlt0, grown_below hG7.out hb8 (Nat.le_refl _), hown8, ?_, ?_, ?_⟩
           · rw [HF.out, HAT.out]; simp only
             obtain ⟨f', rfl⟩ : ∃ f', f = f' + 1 := ⟨f - 1, by have := HL.out.fuel; omega⟩
             rfl
           · have := HL.out.fuel; omega
           · have := HL.out.len; simp; omega
          go_wp2
          go_roundw
          case rel => exact ⟨_, _, _, hnew⟩
          case measure =>
           rw [HL.out.rd.place, hnew.rd.place]
           have := pos_add HL.out.rd.suf
           have := pos_add hnew.rd.suf
           omega

end Go.Proofs.YtphaeegbmfpcgaaGreatDoor

/- Trees in memory, and what keeps them; no program in sight. -/

namespace Go.Proofs.YtphaeegbmfpcgaaGreatDoor
open Go Go.RowKit

/-- A tree, where its attributes lie, where its kids lie. -/
abbrev TrV := Tr × Value × Value
def nodeC (n : Bs) (av kv : Value) (x : Bs) : List Value := [.string (bs n), av, kv, .string (bs x)]
def trC (x : TrV) : List Value := nodeC x.1.name x.2.1 x.2.2 x.1.text
theorem trC_len (x : TrV) : (trC x).length = 4 := rfl
/-- A slice that reads as a list, outside of the blocks X. -/
def SliceX {α : Type} (n : Nat) (C : α → List Value) (X : Nat → Prop) (w : World) (v : Value) (l : List α) : Prop :=
 ∃ ao cap, v = .slice ao l.length cap ∧ l.length ≤ cap ∧ cap ≤ maxLen ∧ (ao = none → cap = 0) ∧
  ∀ i x, l[i]? = some x → ∃ b o, ao = some ⟨b, o, none⟩ ∧ b < w.heap.size ∧ ¬ X b ∧ ∀ j u, (C x)[j]? = some u → w.cell? ⟨b, o + i * n + j, none⟩ = some u
theorem SliceX.slice {α : Type} {n : Nat} {C : α → List Value} {X : Nat → Prop} {w : World} {v : Value} {l : List α} (h : SliceX n C X w v l) : SliceOf n C w v l := by
 obtain ⟨ao, cap, h1, h2, h3, h4, h5⟩ := h
 refine ⟨ao, cap, h1, h2, h3, h4, fun i x hx => ?_⟩
 obtain ⟨b, o, e1, e2, -, e3⟩ := h5 i x hx
 exact ⟨b, o, e1, e2, e3⟩
theorem SliceX.nil {α : Type} {n : Nat} {C : α → List Value} {X : Nat → Prop} {w : World} : SliceX n C X w (.slice none 0 0) ([] : List α) :=
 ⟨none, 0, rfl, Nat.le_refl _, Nat.zero_le _, fun _ => rfl, fun i x h => by simp at h⟩
theorem SliceX.shape {α : Type} {n : Nat} {C : α → List Value} {X : Nat → Prop} {w : World} {v : Value} {l : List α} (h : SliceX n C X w v l) : ∃ ao cap, v = .slice ao l.length cap := h.slice.shape
theorem Owns.toX {α : Type} {base : Nat} {E : TypeId} {n : Nat} {C : α → List Value} {X : Nat → Prop} {w : World} {v : Value} {l : List α} (h : Owns base E n C w v l) (hC : ∀ x, (C x).length = n) (hX : ∀ g, v.ownBlock = some g → ¬ X g) : SliceX n C X w v l := by
 obtain ⟨ao, cap, rfl, h2, h3, h4, h5⟩ := h.slice hC
 refine ⟨ao, cap, rfl, h2, h3, h4, fun i x hx => ?_⟩
 obtain ⟨b, o, e1, e2, e3⟩ := h5 i x hx
 subst e1
 exact ⟨b, o, rfl, e2, hX b rfl, e3⟩
/-- What was there, but for the blocks X, is as it was. -/
structure KeptX (X : Nat → Prop) (w w' : World) : Prop where
 size : w.heap.size ≤ w'.heap.size
 cell : ∀ k j, k < w.heap.size → ¬ X k → w'.cell? ⟨k, j, none⟩ = w.cell? ⟨k, j, none⟩
theorem KeptX.refl (X : Nat → Prop) (w : World) : KeptX X w w := ⟨Nat.le_refl _, fun _ _ _ _ => rfl⟩
theorem KeptX.trans {X : Nat → Prop} {w w1 w2 : World} (h : KeptX X w w1) (h2 : KeptX X w1 w2) : KeptX X w w2 :=
 ⟨Nat.le_trans h.size h2.size, fun k j hk hx => (h2.cell k j (Nat.lt_of_lt_of_le hk h.size) hx).trans (h.cell k j hk hx)⟩
theorem KeptX.below {X : Nat → Prop} {w w' : World} (h : Below w.heap.size w w') : KeptX X w w' := ⟨h.size, fun k j hk _ => h.cell (p := ⟨k, j, none⟩) hk⟩
theorem KeptX.grown {X : Nat → Prop} {w w' : World} {row : Option Nat} (h : w.grownBy w' row) (hx : ∀ g, row = some g → X g) : KeptX X w w' :=
 ⟨h.size, fun k j hk hn => World.cell?_of_block (by exact h.block k hk (fun e => hn (hx k e.symm)))⟩
theorem SliceX.keep {α : Type} {n : Nat} {C : α → List Value} {X Y : Nat → Prop} {w w' : World} {v : Value} {l : List α} (h : SliceX n C X w v l) (hk : KeptX X w w') (hY : ∀ k, k < w.heap.size → Y k → X k) : SliceX n C Y w' v l := by
 obtain ⟨ao, cap, h1, h2, h3, h4, h5⟩ := h
 refine ⟨ao, cap, h1, h2, h3, h4, fun i x hx => ?_⟩
 obtain ⟨b, o, e1, e2, e3, e4⟩ := h5 i x hx
 exact ⟨b, o, e1, Nat.lt_of_lt_of_le e2 hk.size, fun hy => e3 (hY b e2 hy), fun j u hu => (hk.cell b _ e2 e3).trans (e4 j u hu)⟩
/-- A tree in memory, outside of the blocks X. -/
inductive NodeX (X : Nat → Prop) (w : World) : Tr → Value → Value → Prop where
 | mk {n : Bs} {ats : List At2} {ks : List Tr} {x : Bs} {av kv : Value} (L : List TrV) (att : SliceX 2 atC X w av ats) (his : L.map (·.1) = ks) (own : SliceX 4 trC X w kv L) (kids : ∀ y ∈ L, NodeX X w y.1 y.2.1 y.2.2) : NodeX X w (.mk n ats ks x) av kv
theorem NodeX.keep {X Y : Nat → Prop} {w w' : World} {t : Tr} {av kv : Value} (h : NodeX X w t av kv) (hk : KeptX X w w') (hY : ∀ k, k < w.heap.size → Y k → X k) : NodeX Y w' t av kv := by
 induction h with
 | mk L att his own kids ih => exact .mk L (att.keep hk hY) his (own.keep hk hY) ih
theorem NodeX.parts {X : Nat → Prop} {w : World} {t : Tr} {av kv : Value} (h : NodeX X w t av kv) : ∃ L : List TrV, L.map (·.1) = t.kids ∧ SliceX 2 atC X w av t.attrs ∧ SliceX 4 trC X w kv L ∧ ∀ y ∈ L, NodeX X w y.1 y.2.1 y.2.2 := by
 cases h with
 | mk L att his own kids => exact ⟨L, his, att, own, kids⟩
theorem NodeX.of {X : Nat → Prop} {w : World} {t : Tr} {av kv : Value} (L : List TrV) (his : L.map (·.1) = t.kids) (att : SliceX 2 atC X w av t.attrs) (own : SliceX 4 trC X w kv L) (kids : ∀ y ∈ L, NodeX X w y.1 y.2.1 y.2.2) : NodeX X w t av kv := by
 cases t
 exact .mk L att his own kids
abbrev NodeOf (w : World) : Tr → Value → Value → Prop := NodeX (fun _ => False) w
theorem NodeX.node {X : Nat → Prop} {w : World} {t : Tr} {av kv : Value} (h : NodeX X w t av kv) : NodeOf w t av kv := h.keep (KeptX.refl X w) (fun _ _ h => h.elim)
theorem NodeX.later {X : Nat → Prop} {w w' : World} {t : Tr} {av kv : Value} (h : NodeX X w t av kv) (hb : Below w.heap.size w w') : NodeX X w' t av kv := h.keep (KeptX.below hb) (fun _ _ h => h)
/-- A block is a row of elements E, n cells in all. -/
def Row (w : World) (g : Nat) (E : TypeId) (n : Nat) : Prop := ∃ cur, w.heap[g]? = some (.cells cur E (0, 0)) ∧ cur.size = n
theorem Row.lt {w : World} {g : Nat} {E : TypeId} {n : Nat} (h : Row w g E n) : g < w.heap.size := by
 obtain ⟨cur, h1, -⟩ := h
 exact (Array.getElem?_eq_some_iff.1 h1).1
theorem Row.kept {w w' : World} {g : Nat} {E : TypeId} {n : Nat} (h : Row w g E n) (hg : w'.heap[g]? = w.heap[g]?) : Row w' g E n := by
 obtain ⟨cur, h1, h2⟩ := h
 exact ⟨cur, hg.trans h1, h2⟩
theorem Row.setCell {w : World} {g : Nat} {E : TypeId} {n : Nat} (h : Row w g E n) (k j : Nat) (v : Value) : Row (w.setCell ⟨k, j, none⟩ v) g E n := by
 obtain ⟨cur, h1, h2⟩ := h
 by_cases hk : g = k
 · subst hk
   exact ⟨_, heap_setCell_same w g j cur E v h1, by simpa using h2⟩
 · exact ⟨cur, (heap_setCell_other w ⟨k, j, none⟩ g v hk).trans h1, h2⟩
theorem Row.type {w : World} {g : Nat} {E F : TypeId} {n m : Nat} (h : Row w g E n) (h2 : Row w g F m) : E = F := by
 obtain ⟨c, h1, -⟩ := h
 obtain ⟨c2, h3, -⟩ := h2
 rw [h1] at h3
 simp only [Option.some.injEq, Obj.cells.injEq] at h3
 exact h3.2.1
theorem Owns.row {α : Type} {base : Nat} {E : TypeId} {n : Nat} {C : α → List Value} {w : World} {g o len cap : Nat} {l : List α} (h : Owns base E n C w (.slice (some ⟨g, o, none⟩) len cap) l) : o = 0 ∧ base ≤ g ∧ Row w g E (cap * n) ∧ len = l.length ∧ l.length ≤ cap ∧ cap ≤ maxLen := by
 rcases h.2 with ⟨h1, -⟩ | ⟨g', cap', cur, h1, h2, h3, h4, h5, h6, h7⟩
 · simp at h1
 · simp only [Value.slice.injEq, Option.some.injEq, Addr.mk.injEq] at h1
   obtain ⟨⟨rfl, rfl, -⟩, rfl, rfl⟩ := h1
   exact ⟨rfl, h2, ⟨cur, h3, h6⟩, rfl, h4, h5⟩
/-- Cells from an offset on. -/
def At4 (w : World) (b o : Nat) (cs : List Value) : Prop := ∀ j u, cs[j]? = some u → w.cell? ⟨b, o + j, none⟩ = some u
theorem At4.kept {w w' : World} {b o : Nat} {cs : List Value} (h : At4 w b o cs) (hc : ∀ j, j < cs.length → w'.cell? ⟨b, o + j, none⟩ = w.cell? ⟨b, o + j, none⟩) : At4 w' b o cs :=
 fun j u hu => (hc j (List.getElem?_eq_some_iff.1 hu).1).trans (h j u hu)
theorem Owns.of_cells {α : Type} {base : Nat} {E : TypeId} {n : Nat} {C : α → List Value} (hC : ∀ x, (C x).length = n) {w : World} {g cap : Nat} {l : List α} (hb : base ≤ g) (hr : Row w g E (cap * n)) (hl : l.length ≤ cap) (hm : cap ≤ maxLen) (hc : At4 w g 0 (l.flatMap C)) : Owns base E n C w (.slice (some ⟨g, 0, none⟩) l.length cap) l := by
 obtain ⟨cur, h1, h2⟩ := hr
 refine ⟨flat_len hC l, .inr ⟨g, cap, cur, rfl, hb, h1, hl, hm, h2, ?_⟩⟩
 have hlen := flat_len hC l
 have hle : l.length * n ≤ cap * n := Nat.mul_le_mul_right n hl
 apply List.ext_getElem?
 intro j
 rw [List.getElem?_take]
 by_cases hj : j < l.length * n
 · rw [if_pos hj]
   have hj' : j < (l.flatMap C).length := by omega
   have := hc j _ (List.getElem?_eq_getElem hj')
   rw [Nat.zero_add, cell_of_row w g j cur E (0, 0) h1] at this
   rw [List.getElem?_eq_getElem hj', ← this]; simp
 · rw [if_neg hj, List.getElem?_eq_none (by omega)]
theorem Owns.cells0 {α : Type} {base : Nat} {E : TypeId} {n : Nat} {C : α → List Value} {w : World} {g len cap : Nat} {l : List α} (h : Owns base E n C w (.slice (some ⟨g, 0, none⟩) len cap) l) : At4 w g 0 (l.flatMap C) := by
 intro j u hu
 have := World.ownsRow.cells h (g := g) rfl j u hu
 rwa [Addr.add_lit] at this

end Go.Proofs.YtphaeegbmfpcgaaGreatDoor

/- The builder's memory: the path of open elements, and what keeps it; no program in sight. -/

namespace Go.Proofs.YtphaeegbmfpcgaaGreatDoor
open Go Go.RowKit

/-- The elements around the one at (b, o), innermost first, and where these are: each has the next one as the last of its kids. -/
inductive Up (NT : TypeId) (B : Nat) (X : Nat → Prop) (w : World) : Nat → Nat → List Fr → List (Nat × Nat) → Prop where
 | root : Up NT B X w B 0 [] []
 | step {b o b' o' : Nat} {f : Fr} {fs : List Fr} {ps : List (Nat × Nat)} (L : List TrV) (av : Value) (cap : Nat) (lt : b' < b) (ho : o = L.length * 4) (his : L.map (·.1) = f.kids) (hcap : L.length + 1 ≤ cap) (hm : cap ≤ maxLen) (row : Row w b NT (cap * 4))
     (cells : At4 w b' o' (nodeC f.name av (.slice (some ⟨b, 0, none⟩) (L.length + 1) cap) [])) (kids : At4 w b 0 (L.flatMap trC)) (att : SliceX 2 atC X w av f.attrs) (nodes : ∀ y ∈ L, NodeX X w y.1 y.2.1 y.2.2) (xb : X b') (up : Up NT B X w b' o' fs ps) : Up NT B X w b o (f :: fs) ((b', o') :: ps)
theorem Up.place {NT : TypeId} {B : Nat} {X : Nat → Prop} {w : World} {b o : Nat} {fs : List Fr} {ps : List (Nat × Nat)} (h : Up NT B X w b o fs ps) : (b = B ∧ o = 0 ∧ fs = []) ∨ (B < b ∧ ∃ n, Row w b NT n) := by
 induction h with
 | root => exact .inl ⟨rfl, rfl, rfl⟩
 | step L av cap lt ho his hcap hm row cells kids att nodes xb up ih =>
  refine .inr ⟨?_, _, row⟩
  rcases ih with ⟨rfl, -⟩ | ⟨h, -⟩
  · exact lt
  · omega
theorem Up.ge {NT : TypeId} {B : Nat} {X : Nat → Prop} {w : World} {b o : Nat} {fs : List Fr} {ps : List (Nat × Nat)} (h : Up NT B X w b o fs ps) : B ≤ b := by
 rcases h.place with ⟨rfl, -⟩ | ⟨h, -⟩ <;> omega
theorem Up.len {NT : TypeId} {B : Nat} {X : Nat → Prop} {w : World} {b o : Nat} {fs : List Fr} {ps : List (Nat × Nat)} (h : Up NT B X w b o fs ps) : ps.length = fs.length := by
 induction h with
 | root => rfl
 | step L av cap lt ho his hcap hm row cells kids att nodes xb up ih => simp [ih]
theorem Up.keep {NT : TypeId} {B : Nat} {X Y : Nat → Prop} {w w' : World} {b o : Nat} {fs : List Fr} {ps : List (Nat × Nat)} (h : Up NT B X w b o fs ps) (hk : KeptX X w w') (hY : ∀ k, k < w.heap.size → Y k → X k) (hP : ∀ k, k < b → (k = B ∨ ∃ n, Row w k NT n) → X k → Y k)
    (hcB : b ≠ B → ∀ j, j < 4 → w'.cell? ⟨B, j, none⟩ = w.cell? ⟨B, j, none⟩) (hcR : ∀ k n, k < b → k ≠ B → Row w k NT n → ∀ j, w'.cell? ⟨k, j, none⟩ = w.cell? ⟨k, j, none⟩)
    (hco : ∀ j, j < o → w'.cell? ⟨b, j, none⟩ = w.cell? ⟨b, j, none⟩) (hr : ∀ k n, k ≤ b → k ≠ B → Row w k NT n → Row w' k NT n) : Up NT B Y w' b o fs ps := by
 induction h with
 | root => exact .root
 | @step b o b' o' f fs ps L av cap lt ho his hcap hm row cells kids att nodes xb up ih =>
  have hge := up.ge
  have hbB : b ≠ B := by omega
  refine .step L av cap lt ho his hcap hm (hr b _ (Nat.le_refl _) hbB row) (cells.kept fun j hj => ?_) (kids.kept fun j hj => ?_) (att.keep hk hY) (fun y hy => (nodes y hy).keep hk hY) (hP _ lt (up.place.imp (fun h => h.1) (fun h => h.2)) xb) (ih (fun k hkb => hP k (by omega)) (fun _ => hcB hbB) (fun k n hkb hkB hrw j => hcR k n (by omega) hkB hrw j) (fun j hj => ?_) (fun k n hkb hkB hrw => hr k n (by omega) hkB hrw))
  · rcases up.place with ⟨rfl, rfl, -⟩ | ⟨h1, n, h2⟩
    · rw [Nat.zero_add]; exact hcB hbB j hj
    · exact hcR b' n lt (by omega) h2 _
  · rw [Nat.zero_add]; exact hco j (by rw [flat_len trC_len] at hj; omega)
  · rcases up.place with ⟨rfl, rfl, -⟩ | ⟨h1, n, h2⟩
    · omega
    · exact hcR b' n lt (by omega) h2 _
theorem Owns.heap {α : Type} {base : Nat} {E : TypeId} {n : Nat} {C : α → List Value} {w w' : World} {v : Value} {l : List α} (h : Owns base E n C w v l) (hg : ∀ g, v.ownBlock = some g → w'.heap[g]? = w.heap[g]?) : Owns base E n C w' v l := by
 refine ⟨h.1, ?_⟩
 rcases h.2 with h | ⟨g, cap, cur, rfl, h2, h3, h4⟩
 · exact .inl h
 · exact .inr ⟨g, cap, cur, rfl, h2, (hg g rfl).trans h3, h4⟩
theorem Owns.rowOf {α : Type} {base : Nat} {E : TypeId} {n : Nat} {C : α → List Value} {w : World} {v : Value} {l : List α} (h : Owns base E n C w v l) {g : Nat} (hg : v.ownBlock = some g) : base ≤ g ∧ ∃ m, Row w g E m := by
 rcases h.2 with ⟨rfl, -⟩ | ⟨g', cap, cur, rfl, h2, h3, h4, h5, h6, h7⟩
 · simp [Value.ownBlock] at hg
 · simp [Value.ownBlock] at hg
   subst hg
   exact ⟨h2, _, cur, h3, h6⟩
theorem Row.free {w : World} {g : Nat} {E : TypeId} {n : Nat} (h : Row w g E n) (j : Nat) : w.frozen? ⟨g, j, none⟩ = false := by
 obtain ⟨cur, h1, -⟩ := h
 simp [World.frozen?, h1]
/-- The innermost open element, at (b, o). -/
structure Inner (NT : TypeId) (X : Nat → Prop) (w : World) (b o : Nat) (f : Fr) (L : List TrV) (av kv : Value) : Prop where
 cells : At4 w b o (nodeC f.name av kv [])
 att : SliceX 2 atC X w av f.attrs
 own : Owns (b + 1) NT 4 trC w kv L
 is : L.map (·.1) = f.kids
 nodes : ∀ y ∈ L, NodeX X w y.1 y.2.1 y.2.2
 blk : ∀ g, kv.ownBlock = some g → X g
 xb : X b
theorem Inner.keep {NT : TypeId} {X Y : Nat → Prop} {w w' : World} {b o : Nat} {f : Fr} {L : List TrV} {av kv : Value} (h : Inner NT X w b o f L av kv) (hk : KeptX X w w') (hY : ∀ k, k < w.heap.size → Y k → X k)
    (hc : ∀ j, j < 4 → w'.cell? ⟨b, o + j, none⟩ = w.cell? ⟨b, o + j, none⟩) (hg : ∀ g, kv.ownBlock = some g → w'.heap[g]? = w.heap[g]?) (hP : ∀ k, (k = b ∨ kv.ownBlock = some k) → Y k) : Inner NT Y w' b o f L av kv :=
 ⟨h.cells.kept hc, h.att.keep hk hY, h.own.heap hg, h.is, fun y hy => (h.nodes y hy).keep hk hY, fun g hgk => hP g (.inr hgk), hP b (.inl rfl)⟩
/-- The pointers to the open elements, the outermost first. -/
def ptC (p : Nat × Nat) : List Value := [.pointer (some ⟨p.1, p.2, none⟩)]
theorem ptC_len (p : Nat × Nat) : (ptC p).length = 1 := rfl
/-- The slice of pointers: it is nil, or lies in a row of its own; without room unless that row ends with it. -/
def OpenSl (PT : TypeId) (B : Nat) (w : World) (ov : Value) (ps : List (Nat × Nat)) : Prop :=
 (ov = .slice none 0 0 ∧ ps = []) ∨ ∃ g cap n, ov = .slice (some ⟨g, 0, none⟩) ps.length cap ∧ B < g ∧ Row w g PT n ∧ At4 w g 0 (ps.flatMap ptC) ∧ ps.length ≤ cap ∧ cap ≤ maxLen ∧ (cap = n ∨ (cap = ps.length ∧ ps.length ≤ n))
theorem OpenSl.heap {PT : TypeId} {B : Nat} {w w' : World} {ov : Value} {ps : List (Nat × Nat)} (h : OpenSl PT B w ov ps) (hg : ∀ g, ov.ownBlock = some g → w'.heap[g]? = w.heap[g]?) : OpenSl PT B w' ov ps := by
 rcases h with h | ⟨g, cap, n, rfl, h2, h3, h4, h5⟩
 · exact .inl h
 · exact .inr ⟨g, cap, n, rfl, h2, h3.kept (hg g rfl), h4.kept (fun j _ => World.cell?_of_block (hg g rfl)), h5⟩
theorem OpenSl.rowOf {PT : TypeId} {B : Nat} {w : World} {ov : Value} {ps : List (Nat × Nat)} (h : OpenSl PT B w ov ps) {g : Nat} (hg : ov.ownBlock = some g) : B < g ∧ ∃ n, Row w g PT n := by
 rcases h with ⟨rfl, -⟩ | ⟨g', cap, n, rfl, h2, h3, -⟩
 · simp [Value.ownBlock] at hg
 · simp [Value.ownBlock] at hg
   subst hg
   exact ⟨h2, n, h3⟩
theorem OpenSl.ofOwns {PT : TypeId} {B : Nat} {w : World} {ov : Value} {ps : List (Nat × Nat)} (h : Owns (B + 1) PT 1 ptC w ov ps) : OpenSl PT B w ov ps := by
 rcases h.2 with ⟨rfl, h0⟩ | ⟨g, cap, cur, rfl, h2, h3, h4, h5, h6, h7⟩
 · exact .inl ⟨rfl, List.eq_nil_of_length_eq_zero h0⟩
 · exact .inr ⟨g, cap, cap, rfl, by omega, ⟨cur, h3, by omega⟩, Owns.cells0 h, h4, h5, .inl rfl⟩
/-- Either it is owned, or there is no room. -/
theorem OpenSl.owns {PT : TypeId} {B : Nat} {w : World} {ov : Value} {ps : List (Nat × Nat)} (h : OpenSl PT B w ov ps) : Owns (B + 1) PT 1 ptC w ov ps ∨ ∃ g, ov = .slice (some ⟨g, 0, none⟩) ps.length ps.length ∧ At4 w g 0 (ps.flatMap ptC) := by
 rcases h with ⟨rfl, rfl⟩ | ⟨g, cap, n, rfl, h2, h3, h4, h5, h6, h7⟩
 · exact .inl Owns.nil
 · rcases h7 with rfl | ⟨rfl, h8⟩
   · exact .inl (Owns.of_cells ptC_len (by omega) (by simpa using h3) h5 h6 h4)
   · exact .inr ⟨g, rfl, h4⟩
theorem ptC_flat (ps : List (Nat × Nat)) : ps.flatMap ptC = ps.map fun p => .pointer (some ⟨p.1, p.2, none⟩) := by
 induction ps with
 | nil => rfl
 | cons p l ih => simp [ptC, ih]
theorem OpenSl.at {PT : TypeId} {B : Nat} {w : World} {ov : Value} {ps : List (Nat × Nat)} (h : OpenSl PT B w ov ps) {i : Nat} {p : Nat × Nat} (hi : ps[i]? = some p) : ∃ g cap, ov = .slice (some ⟨g, 0, none⟩) ps.length cap ∧ ps.length ≤ cap ∧ cap ≤ maxLen ∧ g < w.heap.size ∧ w.cell? ⟨g, i, none⟩ = some (.pointer (some ⟨p.1, p.2, none⟩)) := by
 rcases h with ⟨rfl, rfl⟩ | ⟨g, cap, n, rfl, h2, h3, h4, h5, h6, h7⟩
 · simp at hi
 · refine ⟨g, cap, rfl, h5, h6, h3.lt, ?_⟩
   have := h4 i (.pointer (some ⟨p.1, p.2, none⟩)) (by rw [ptC_flat]; simp [hi])
   simpa using this
/-- The last one goes. -/
theorem OpenSl.pop {PT : TypeId} {B : Nat} {w : World} {ps : List (Nat × Nat)} {p : Nat × Nat} {g cap : Nat} (h : OpenSl PT B w (.slice (some ⟨g, 0, none⟩) (ps ++ [p]).length cap) (ps ++ [p])) : OpenSl PT B w (.slice (some ⟨g, 0, none⟩) ps.length ps.length) ps := by
 rcases h with ⟨h, -⟩ | ⟨g', cap, n, h1, h2, h3, h4, h5, h6, h7⟩
 · simp at h
 · simp only [Value.slice.injEq, Option.some.injEq, Addr.mk.injEq] at h1
   obtain ⟨⟨rfl, -, -⟩, -, rfl⟩ := h1
   refine .inr ⟨g, _, n, rfl, h2, h3, fun j u hu => h4 j u ?_, Nat.le_refl _, ?_, .inr ⟨rfl, ?_⟩⟩
   · rw [List.flatMap_append, List.getElem?_append_left (List.getElem?_eq_some_iff.1 hu).1]; exact hu
   · simp at h5; omega
   · simp at h5 h7; omega
/-- What is open, or the root if it has ended. -/
inductive TreeOf (NT : TypeId) (B : Nat) (X : Nat → Prop) (w : World) : List Fr → Option Tr → List (Nat × Nat) → Prop where
 | empty : TreeOf NT B X w [] none []
 | root {t : Tr} (av kv : Value) (cells : At4 w B 0 (nodeC t.name av kv t.text)) (node : NodeX X w t av kv) : TreeOf NT B X w [] (some t) []
 | inside {b o : Nat} {f : Fr} {fs : List Fr} {qs : List (Nat × Nat)} (L : List TrV) (av kv : Value) (inn : Inner NT X w b o f L av kv) (up : Up NT B X w b o fs qs) : TreeOf NT B X w (f :: fs) none (qs.reverse ++ [(b, o)])
theorem TreeOf.len {NT : TypeId} {B : Nat} {X : Nat → Prop} {w : World} {st : List Fr} {r : Option Tr} {ps : List (Nat × Nat)} (h : TreeOf NT B X w st r ps) : ps.length = st.length := by
 cases h with
 | empty => rfl
 | root => rfl
 | inside L av kv inn up => simp [up.len]
/-- Blocks of nodes, and the root's cells, are as they were. -/
theorem TreeOf.keep {NT : TypeId} {B : Nat} {X Y : Nat → Prop} {w w' : World} {st : List Fr} {r : Option Tr} {ps : List (Nat × Nat)} (h : TreeOf NT B X w st r ps) (hk : KeptX X w w') (hY : ∀ k, k < w.heap.size → Y k → X k) (hP : ∀ k, (k = B ∨ ∃ n, Row w k NT n) → X k → Y k)
    (hB : ∀ j, j < 4 → w'.cell? ⟨B, j, none⟩ = w.cell? ⟨B, j, none⟩) (hR : ∀ k n, k ≠ B → Row w k NT n → w'.heap[k]? = w.heap[k]?) : TreeOf NT B Y w' st r ps := by
 cases h with
 | empty => exact .empty
 | root av kv cells node => exact .root av kv (cells.kept fun j hj => by rw [Nat.zero_add]; exact hB j hj) (node.keep hk hY)
 | @inside b o f fs qs L av kv inn up =>
  have hge := up.ge
  refine .inside L av kv (inn.keep hk hY (fun j hj => ?_) (fun g hg => ?_) (fun k hkk => ?_)) (up.keep hk hY (fun k _ => hP k) (fun _ => hB) (fun k n _ hkB hr j => World.cell?_of_block (hR k n hkB hr)) (fun j hj => ?_) (fun k n _ hkB hr => hr.kept (hR k n hkB hr)))
  · rcases up.place with ⟨rfl, rfl, -⟩ | ⟨h1, n, h2⟩
    · rw [Nat.zero_add]; exact hB j hj
    · exact World.cell?_of_block (hR b n (by omega) h2)
  · obtain ⟨h1, n, h2⟩ := inn.own.rowOf hg
    exact hR g n (by omega) h2
  · rcases hkk with rfl | hkk
    · exact hP _ (up.place.imp (fun h => h.1) (fun h => h.2)) inn.xb
    · exact hP k (.inr (inn.own.rowOf hkk).2) (inn.blk k hkk)
  · rcases up.place with ⟨rfl, rfl, -⟩ | ⟨h1, n, h2⟩
    · omega
    · exact World.cell?_of_block (hR b n (by omega) h2)

end Go.Proofs.YtphaeegbmfpcgaaGreatDoor
