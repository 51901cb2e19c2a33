/- The walks of the program's reader's value and isHead; their conditions stand in the theorems. -/
import Derived.Test.YtpchljiiappmnaaK16
namespace Go.Proofs.Ytpchljiiappmnaa
open Go Go.RowKit

set_option maxRecDepth 100000 in
set_option maxHeartbeats 4000000 in
theorem value_any (b : Nat) (s : S) (l : Bs) (ov : Value) (w : World) (h : Rd w b s l ov) (hs : s.size ≤ 1000000) :
    Calls Try.prog 117 #[.pointer (some ⟨b, 0, none⟩)] w (Out (fun t => .string (bs t)) b s ov w (valueR l)) := by
  have c0 := h.c0
  have c1 := h.c1
  have f1 := h.f1
  have hlt := h.box.lt
  have HR := Lib.hid h
  cases l with
  | nil =>
    have HN : Hid (Calls Try.prog 53 #[.pointer (some ⟨b, 0, none⟩)] w (Qt (.bool true) w)) := ends_any b s [] ov w h
    clear h
    go_enter Try.func117, Try.ntmps117
    go_wp2_with fail
    refine HN.out.mono ?_
    rintro e w' ⟨rfl, n, rfl⟩
    go_wp2_with fail
    refine (fail_any _ _ _).mono ?_
    rintro e w' ⟨rfl, rfl⟩
    go_wp2
    exact ⟨rfl, rfl, grownN w n _⟩
  | cons c r =>
    have HN : Hid (Calls Try.prog 53 #[.pointer (some ⟨b, 0, none⟩)] w (Qt (.bool false) w)) := ends_any b s (c :: r) ov w h
    have hpl := pos_lt h.suf
    have hg := pos_get h.suf hpl
    have HC := Lib.hid (pos_cons h.suf)
    have HS := Lib.hid (suf_tail h.suf)
    clear h
    generalize hpp : pos s (c :: r) = p at *
    have HPP := Lib.hid hpp
    clear hpp
    have hpi : (p : Int) < (s.size : Int) := by omega
    have hpb : (p : Int) + 1 ≤ 1000000 := by omega
    have HG := Lib.hid hg
    by_cases hq : c = 34 ∨ c = 39
    rotate_left
    · have e1 : (((s[p].toNat : Nat) : Int) != 34) = true := by
        rw [hg, bne_iff_ne]; intro e; exact hq (.inl (UInt8.toNat_inj.1 (by simpa using (by omega : c.toNat = 34))))
      have e2 : (((s[p].toNat : Nat) : Int) != 39) = true := by
        rw [hg, bne_iff_ne]; intro e; exact hq (.inr (UInt8.toNat_inj.1 (by simpa using (by omega : c.toNat = 39))))
      have HQ : Hid (valueR (c :: r) = .bad 10 (c :: r)) := by show _ = _; simp only [valueR]; rw [if_neg hq]
      clear hq hg
      go_enter Try.func117, Try.ntmps117
      go_wp2_with fail
      refine HN.out.mono ?_
      rintro e w' ⟨rfl, n, rfl⟩
      go_wp2
      go_quiet (fail)
      go_wp2_with fail
      refine (fail_any 10 p _).mono ?_
      rintro e w' ⟨rfl, rfl⟩
      go_wp2
      rw [HQ.out]
      exact ⟨rfl, by rw [HPP.out], grownN w _ _⟩
    · have hv : ((((s[p].toNat : Nat) : Int) != 34) = false) ∨ ((((s[p].toNat : Nat) : Int) != 34) = true ∧ (((s[p].toNat : Nat) : Int) != 39) = false) := by
        rcases hq with h | h
        · left; rw [hg, h]; decide
        · right; rw [hg, h]; decide
      have HQ : Hid (valueR (c :: r) = (letters c r).bind fun s r => match r with
        | [] => .bad 13 []
        | _ :: r' => .ok s r') := by show _ = _; simp only [valueR]; rw [if_pos hq]; rfl
      have HLT : Hid (∀ w, Rd w b s r ov → Calls Try.prog 85 #[.pointer (some ⟨b, 0, none⟩), .int .u8 s[p].toNat] w (Out (fun t => .string (bs t)) b s ov w (letters c r))) := fun w h => by
        have := letters_any b s s[p] r ov w h hs
        rw [show letters s[p] r = letters c r by rw [hg]] at this; exact this
      clear hq hg
      have main : ∀ n, Rd ((w.drewN n).setCell ⟨b, 1, none⟩ (.int .i64 ((p : Int) + 1))) b s r ov := fun n => (HR.out.drewN n).move HS.out (by rw [HC.out]; rfl)
      have HM := Lib.hid main
      clear main
      rcases hv with e1 | ⟨e1, e2⟩
      all_goals
        go_enter Try.func117, Try.ntmps117
        go_wp2_with fail
        refine HN.out.mono ?_
        rintro e w' ⟨rfl, n, rfl⟩
        go_wp2
        go_quiet (fail)
        go_wp2_with fail
        refine Calls.world ?_
        intro W hW
        have hR : Rd W b s r ov := by rw [hW]; exact HM.out _
        have hG : Hid (w.grownBy W (some b)) := by rw [hW]; exact (grownN w _ _).trans (setCell_grown _ b 1 _)
        clear hW c0 c1 f1 e1
        have hcall := HLT.out W hR
        cases hl : letters c r with
        | bad x r' =>
          rw [hl] at hcall
          have HL := Lib.hid hl
          clear hl
          refine hcall.mono ?_
          intro e w' hO
          obtain ⟨rfl, hg⟩ : Bad x s r' b W e w' := hO
          go_wp2
          rw [HQ.out, HL.out]
          exact ⟨rfl, rfl, hG.out.trans hg⟩
        | ok t r' =>
          rw [hl] at hcall
          have HL := Lib.hid hl
          clear hl
          refine hcall.mono ?_
          intro e w2 hO
          obtain ⟨rfl, hR2, hg⟩ : Goes (.string (bs t)) b s r' ov W e w2 := hO
          have HG2 := Lib.hid (hG.out.trans hg)
          have c1 := hR2.c1
          have f1 := hR2.f1
          have hlt2 := hR2.box.lt
          have HR2 := Lib.hid hR2
          clear hR hg
          cases r' with
          | nil =>
            have HN2 : Hid (Calls Try.prog 53 #[.pointer (some ⟨b, 0, none⟩)] w2 (Qt (.bool true) w2)) := ends_any b s [] ov w2 hR2
            clear hR2
            go_wp2_with fail
            refine HN2.out.mono ?_
            rintro e w' ⟨rfl, n, rfl⟩
            go_wp2_with fail
            refine (fail_any _ _ _).mono ?_
            rintro e w' ⟨rfl, rfl⟩
            go_wp2
            rw [HQ.out, HL.out]
            exact ⟨rfl, rfl, HG2.out.trans (grownN _ _ _)⟩
          | cons x r2 =>
            have HN2 : Hid (Calls Try.prog 53 #[.pointer (some ⟨b, 0, none⟩)] w2 (Qt (.bool false) w2)) := ends_any b s (x :: r2) ov w2 hR2
            have hpl2 := pos_lt hR2.suf
            have HC2 := Lib.hid (pos_cons hR2.suf)
            have HS2 := Lib.hid (suf_tail hR2.suf)
            clear hR2
            generalize pos s (x :: r2) = p2 at *
            have hpb2 : (p2 : Int) + 1 ≤ 1000000 := by omega
            go_wp2_with fail
            refine HN2.out.mono ?_
            rintro e w' ⟨rfl, n, rfl⟩
            go_wp2
            go_ret
            rw [HQ.out, HL.out]
            exact ⟨rfl, (HR2.out.drewN _).move HS2.out (v := .int .i64 ((p2 : Int) + 1)) (by rw [HC2.out]; rfl), (HG2.out.trans (grownN _ _ _)).trans (setCell_grown _ b 1 _)⟩

set_option maxRecDepth 100000 in
set_option maxHeartbeats 2000000 in
theorem isHead_any (b : Nat) (s : S) (l : Bs) (ov : Value) (w : World) (h : Rd w b s l ov) (hs : s.size ≤ 1000000) :
    Calls Try.prog 80 #[.pointer (some ⟨b, 0, none⟩)] w (Qt (.bool (isHead l)) w) := by
  have HRT := Lib.hid (rest_any b s l ov w h)
  have hll : l.length ≤ 1000000 := by have := pos_add h.suf; omega
  have hz := bs_size l
  have HB : Hid ((bs l).data.toList = l) := bs_data l
  clear h
  generalize bs l = u at *
  have hul : u.size ≤ 1000000 := by omega
  have HZ := Lib.hid hz
  cases hp : sHead.isPrefixOf l
  · have HP : Hid ((⟨#[60, 63, 120, 109, 108]⟩ : S).data.toList.isPrefixOf u.data.toList = false) := by rw [HB.out]; exact hp
    have HO : Hid (isHead l = false) := by show _ = _; unfold isHead; rw [hp]; rfl
    clear hp hz
    go_enter Try.func80, Try.ntmps80
    go_wp2_with fail
    refine HRT.out.mono ?_
    rintro e w' ⟨rfl, n, rfl⟩
    go_wp2_with fail
    refine (hasPrefix_any _ _ _).mono ?_
    rintro e w' ⟨rfl, rfl⟩
    rw [HP.out]
    go_wp2
    go_ret
    exact ⟨by rw [HO.out]; rfl, ⟨_, rfl⟩⟩
  · have HP : Hid ((⟨#[60, 63, 120, 109, 108]⟩ : S).data.toList.isPrefixOf u.data.toList = true) := by rw [HB.out]; exact hp
    by_cases h5 : 5 < u.size
    · have h5i : (5 : Int) < (u.size : Int) := by omega
      have hc : l[5]? = some u[5] := by
        have := congrArg (·[0]?) (drop_byte u 5 h5)
        rw [HB.out] at this; simpa using this
      have HO : Hid (isHead l = (cBlank u[5] || u[5] == 63)) := by show _ = _; unfold isHead; rw [hp, hc]; rfl
      clear hp hz hc
      cases hb : cBlank u[5]
      all_goals
        have HI := Lib.hid hb
        clear hb
        go_enter Try.func80, Try.ntmps80
        go_wp2_with fail
        refine HRT.out.mono ?_
        rintro e w' ⟨rfl, n, rfl⟩
        go_wp2_with fail
        refine (hasPrefix_any _ _ _).mono ?_
        rintro e w' ⟨rfl, rfl⟩
        rw [HP.out]
        go_wp2_with (go_at_call 104; refine (isBlank_any _ _).mono ?_; rintro e w' ⟨rfl, rfl⟩; rw [HI.out])
        go_ret
        refine ⟨ret_bool ?_, ⟨_, rfl⟩⟩
        rw [HO.out, HI.out]
      · simp only [Bool.false_or]
        rw [Bool.eq_iff_iff]; simp [← UInt8.toNat_inj]; omega
      · rfl
    · have h5i : ¬ (5 : Int) < (u.size : Int) := by omega
      have HO : Hid (isHead l = false) := by show _ = _; unfold isHead; rw [hp, List.getElem?_eq_none (by omega)]; rfl
      clear hp hz
      go_enter Try.func80, Try.ntmps80
      go_wp2_with fail
      refine HRT.out.mono ?_
      rintro e w' ⟨rfl, n, rfl⟩
      go_wp2_with fail
      refine (hasPrefix_any _ _ _).mono ?_
      rintro e w' ⟨rfl, rfl⟩
      rw [HP.out]
      go_wp2
      go_ret
      exact ⟨by rw [HO.out]; rfl, ⟨_, rfl⟩⟩

end Go.Proofs.Ytpchljiiappmnaa
