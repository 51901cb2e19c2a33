/- Walks of the program's reader: name, until; the conditions stand in the theorems. -/
import Derived.Test.YtpchljiiappmnaaK13
namespace Go.Proofs.Ytpchljiiappmnaa
open Go Go.RowKit

/-- The post of a method: what is read, or what goes wrong. -/
def Out {α : Type} (f : α → Value) (b : Nat) (s : S) (ov : Value) (w : World) : Res α → Ending → World → Prop
  | .ok a r => Goes (f a) b s r ov w
  | .bad e r => Bad e s r b w

theorem want_any (b : Nat) (s : S) (c : UInt8) (l : Bs) (ov : Value) (w : World) (h : Rd w b s l ov) (hs : s.size ≤ 1000000) :
    Calls Try.prog 83 #[.pointer (some ⟨b, 0, none⟩), .string ⟨#[c]⟩] w (Out (fun _ => .tuple #[]) b s ov w (wantC c l)) := by
  cases l with
  | nil => exact want_end b s _ ov w h
  | cons x r =>
    by_cases hx : x = c
    · subst hx
      simp only [wantC, if_true]
      exact want_ok b s x r ov w h hs
    · simp only [wantC, hx, if_false]
      exact want_no b s c x r ov w h hx

set_option maxRecDepth 100000 in
set_option maxHeartbeats 2000000 in
theorem rname_any (b : Nat) (s : S) (x : Int) (l : Bs) (ov : Value) (w : World) (h : Rd w b s l ov) (hs : s.size ≤ 1000000) :
    Calls Try.prog 81 #[.pointer (some ⟨b, 0, none⟩), .int .i64 x] w (Out (fun n => .string (bs n)) b s ov w (nameR x l)) := by
  have c1 := h.c1
  have hlt := h.box.lt
  have HR := Lib.hid h
  cases l with
  | nil =>
    have HN : Hid (Calls Try.prog 53 #[.pointer (some ⟨b, 0, none⟩)] w (Qt (.bool true) w)) := ends_any b s [] ov w h
    clear h
    go_enter Try.func81, Try.ntmps81
    go_wp2_with fail
    refine HN.out.mono ?_
    rintro e w' ⟨rfl, n, rfl⟩
    go_wp2_with fail
    refine (fail_any _ _ _).mono ?_
    rintro e w' ⟨rfl, rfl⟩
    go_wp2
    exact ⟨rfl, rfl, grownN w n _⟩
  | cons c l =>
    have HN : Hid (Calls Try.prog 53 #[.pointer (some ⟨b, 0, none⟩)] w (Qt (.bool false) w)) := ends_any b s (c :: l) ov w h
    have HT : Hid (∀ n, Calls Try.prog 114 #[.pointer (some ⟨b, 0, none⟩)] (w.drewN n) (Qt (.string (bs (c :: l))) (w.drewN n))) := fun n => rest_any b s (c :: l) ov (w.drewN n) (h.drewN n)
    have hle := pos_add h.suf
    have HM : Hid (∀ w, Calls Try.prog 105 #[.string (bs (c :: l))] w fun e w' => e = .returned (.int .i64 (nameLen (c :: l))) ∧ w = w') := fun w => by
      have := name_any (bs (c :: l)) w (by rw [bs_size]; omega)
      rw [bs_data] at this; exact this
    by_cases h0 : nameLen (c :: l) = 0
    · have e0 : ((nameLen (c :: l) : Int) == 0) = true := beq_iff_eq.2 (by omega)
      have HO : Hid (nameR x (c :: l) = .bad x (c :: l)) := by show _ = _; simp only [nameR, h0, if_true]
      clear h h0 hle
      generalize nameLen (c :: l) = k at *
      generalize bs (c :: l) = u at *
      go_enter Try.func81, Try.ntmps81
      go_wp2_with fail
      refine HN.out.mono ?_
      rintro e w' ⟨rfl, n, rfl⟩
      go_wp2_with fail
      refine (HT.out _).mono ?_
      rintro e w' ⟨rfl, n2, rfl⟩
      go_wp2_with fail
      refine (HM.out _).mono ?_
      rintro e w' ⟨rfl, rfl⟩
      go_wp2_with fail
      refine (fail_any _ _ _).mono ?_
      rintro e w' ⟨rfl, rfl⟩
      go_wp2
      rw [HO.out]
      exact ⟨rfl, rfl, grownN w _ _⟩
    · have e0 : ((nameLen (c :: l) : Int) == 0) = false := beq_eq_false_iff_ne.2 (by omega)
      have HO : Hid (nameR x (c :: l) = .ok ((c :: l).take (nameLen (c :: l))) ((c :: l).drop (nameLen (c :: l)))) := by show _ = _; simp only [nameR, h0, if_false]
      have hnl := nameLen_le (c :: l)
      have hsuf := (List.drop_suffix (nameLen (c :: l)) (c :: l)).trans h.suf
      have hp2 : pos s ((c :: l).drop (nameLen (c :: l))) = pos s (c :: l) + nameLen (c :: l) := by
        have := pos_add hsuf; rw [List.length_drop] at this; omega
      have HX : Hid (s.extract (pos s (c :: l)) (pos s (c :: l) + nameLen (c :: l)) = bs ((c :: l).take (nameLen (c :: l)))) := by
        show _ = _
        rw [Lib.extract_eq, pos_drop h.suf, Nat.add_sub_cancel_left]; rfl
      have HP2 := Lib.hid hp2
      have HS := Lib.hid hsuf
      have hle2 : pos s (c :: l) + nameLen (c :: l) ≤ s.size := by omega
      clear h h0 hle hp2 hsuf hnl
      generalize nameLen (c :: l) = k at *
      generalize bs (c :: l) = u at *
      generalize hpp : pos s (c :: l) = p at *
      have HPP := Lib.hid hpp
      clear hpp
      go_enter Try.func81, Try.ntmps81
      go_wp2_with fail
      refine HN.out.mono ?_
      rintro e w' ⟨rfl, n, rfl⟩
      go_wp2_with fail
      refine (HT.out _).mono ?_
      rintro e w' ⟨rfl, n2, rfl⟩
      have f1 := HR.out.f1
      go_wp2_with fail
      refine (HM.out _).mono ?_
      rintro e w' ⟨rfl, rfl⟩
      go_wp2
      refine wp_world ?_
      intro W hW
      have hR : Rd W b s ((c :: l).drop k) ov := by rw [hW]; exact (HR.out.drewN _).move HS.out (v := .int .i64 ((p : Int) + k)) (by rw [HP2.out]; rfl)
      have hG : Hid (w.grownBy W (some b)) := by rw [hW]; exact (grownN w _ _).trans (setCell_grown _ b 1 _)
      clear hW c1 f1
      have c0 := hR.c0
      have c1 := hR.c1
      rw [HP2.out] at c1
      have hlt2 := hR.box.lt
      have HR2 := Lib.hid hR
      clear hR
      have w1 : IntKind.i64.wrap (((p + k : Nat) : Int) - (k : Int)) = (p : Int) := by rw [show ((p + k : Nat) : Int) - (k : Int) = (p : Int) by omega]; exact IntWalk.i64_in _ (by omega)
      have w2 : (p : Int) ≤ ((p + k : Nat) : Int) := by omega
      have w3 : ((p + k : Nat) : Int) ≤ (s.size : Int) := by omega
      go_quiet (fail)
      go_wp2
      go_ret
      rw [HO.out]
      exact ⟨by rw [HX.out]; rfl, HR2.out.drewN nq, hG.out.trans (grownN W nq _)⟩

end Go.Proofs.Ytpchljiiappmnaa
