/- Walks of the document's reader: name; the conditions stand in the theorems. -/
import Derived.Test.YtpchljiiappmnaaK60
namespace Go.Proofs.Ytpchljiiappmnaa
open Go Go.RowKit

set_option maxHeartbeats 1000000 in
theorem rrname_bad (b : Nat) (s : S) (y : Int) (l : Bs) (x o : Int) (w : World) (h : RR w b s l x o) (hx : x ≠ 0) :
    Calls Try.prog 91 #[.pointer (some ⟨b, 0, none⟩), .int .i64 y] w (RGo (.string ⟨#[]⟩) b s l x o w) := by
  have HN : Hid (Calls Try.prog 119 #[.pointer (some ⟨b, 0, none⟩)] w (Qt (.bool true) w)) := rend_bad b s l x o w h hx
  have HR := Lib.hid h
  clear h hx
  go_enter Try.func91, Try.ntmps91
  go_wp2_with fail
  refine HN.out.mono ?_
  rintro e w' ⟨rfl, n, rfl⟩
  go_wp2
  go_ret
  exact ⟨rfl, HR.out.drewN n, grownN w n _⟩

set_option maxRecDepth 100000 in
set_option maxHeartbeats 2000000 in
theorem rrname_any (b : Nat) (s : S) (y : Int) (l : Bs) (w : World) (h : RR w b s l 0 0) (hs : s.size ≤ 1000000) :
    Calls Try.prog 91 #[.pointer (some ⟨b, 0, none⟩), .int .i64 y] w (ROut (fun n => .string (bs n)) (.string ⟨#[]⟩) b s w (nameR y l)) := by
  cases l with
  | nil =>
    have HN : Hid (Calls Try.prog 119 #[.pointer (some ⟨b, 0, none⟩)] w (RGo (.bool true) b s [] 13 s.size w)) := rend_end b s 0 w h
    clear h
    go_enter Try.func91, Try.ntmps91
    go_wp2_with fail
    refine HN.out.mono ?_
    rintro e w' ⟨rfl, hR, hG⟩
    go_wp2
    go_ret
    exact ⟨[], rfl, by rw [pos_nil]; exact hR, hG⟩
  | cons c l =>
    have HN : Hid (Calls Try.prog 119 #[.pointer (some ⟨b, 0, none⟩)] w (Qt (.bool false) w)) := rend_no b s c l w 0 h
    have hle := pos_add h.suf
    have HM : Hid (∀ (W : World) n, Calls Try.prog 25 #[.string (s.extract (pos s (c :: l)) s.size)] (W.drewN n) fun e w'' => e = .returned (.int .i64 (nameLen (c :: l))) ∧ ∃ m, w'' = W.drewN m) := fun W n => quietS (by
      have := refName_any (bs (c :: l)) (W.drewN n) (by rw [bs_size]; omega)
      rw [bs_data] at this
      rw [pos_extract h.suf]; exact this)
    have HF : Hid (∀ (W : World) z, RR W b s (c :: l) 0 0 → Calls Try.prog 120 #[.pointer (some ⟨b, 0, none⟩), .int .i64 y, .int .i64 z] W (RGo (.tuple #[]) b s (c :: l) y z W)) := fun W z hW => rfail_go b s (c :: l) 0 y z W hW
    have hlt := h.box.lt
    have HR := Lib.hid h
    have c0 := h.c0
    have c1 := h.c1
    by_cases h0 : nameLen (c :: l) = 0
    · have e0 : ((nameLen (c :: l) : Int) == 0) = true := beq_iff_eq.2 (by omega)
      have HO : Hid (nameR y (c :: l) = .bad y (c :: l)) := by show _ = _; simp only [nameR, h0, if_true]
      clear h h0
      have hle2 : pos s (c :: l) ≤ s.size := by omega
      clear hle
      generalize nameLen (c :: l) = k at *
      generalize hpp : pos s (c :: l) = p at *
      have HPP := Lib.hid hpp
      clear hpp
      have hli : (p : Int) ≤ (s.size : Int) := by omega
      go_enter Try.func91, Try.ntmps91
      go_wp2_with fail
      refine HN.out.mono ?_
      rintro e W0 ⟨rfl, n, hW0⟩
      have hR0 : RR W0 b s (c :: l) 0 0 := by rw [hW0]; exact HR.out.drewN n
      have hG0 : Hid (w.grownBy W0 (some b)) := by rw [hW0]; exact grownN w n _
      clear hW0 c0 c1
      have c0 := hR0.c0
      have c1 := hR0.c1
      rw [HPP.out] at c1
      have f1 := hR0.box.free 1
      have hlt0 := hR0.box.lt
      have HR0 := Lib.hid hR0
      clear hR0
      go_wp2
      go_quiet ((go_at_call 25; exact (HM.out _ _)))
      go_wp2_with fail
      refine (HF.out _ _ (HR0.out.drewN _)).mono ?_
      rintro e w' ⟨rfl, hR, hG⟩
      go_wp2
      go_ret
      rw [HO.out]
      exact ⟨c :: l, rfl, by rw [HPP.out]; exact hR, hG0.out.trans ((grownN W0 _ _).trans hG)⟩
    · have e0 : ((nameLen (c :: l) : Int) == 0) = false := beq_eq_false_iff_ne.2 (by omega)
      have HO : Hid (nameR y (c :: l) = .ok ((c :: l).take (nameLen (c :: l))) ((c :: l).drop (nameLen (c :: l)))) := by show _ = _; simp only [nameR, h0, if_false]
      have hnl := nameLen_le (c :: l)
      have hsuf := (List.drop_suffix (nameLen (c :: l)) (c :: l)).trans h.suf
      have hp2 : pos s ((c :: l).drop (nameLen (c :: l))) = pos s (c :: l) + nameLen (c :: l) := by
        have := pos_add hsuf; rw [List.length_drop] at this; omega
      have HX : Hid (s.extract (pos s (c :: l)) (pos s (c :: l) + nameLen (c :: l)) = bs ((c :: l).take (nameLen (c :: l)))) := by
        show _ = _
        rw [Lib.extract_eq, pos_drop h.suf, Nat.add_sub_cancel_left]; rfl
      have HP2 := Lib.hid hp2
      have HS := Lib.hid hsuf
      have hle2 : pos s (c :: l) + nameLen (c :: l) ≤ s.size := by omega
      clear h h0 hle hp2 hsuf hnl
      generalize nameLen (c :: l) = k at *
      generalize hpp : pos s (c :: l) = p at *
      have HPP := Lib.hid hpp
      clear hpp
      have hli : (p : Int) ≤ (s.size : Int) := by omega
      have w0 : IntKind.i64.wrap ((p : Int) + (k : Int)) = ((p + k : Nat) : Int) := by rw [IntWalk.i64_in _ (by omega)]; omega
      go_enter Try.func91, Try.ntmps91
      go_wp2_with fail
      refine HN.out.mono ?_
      rintro e W0 ⟨rfl, n, hW0⟩
      have hR0 : RR W0 b s (c :: l) 0 0 := by rw [hW0]; exact HR.out.drewN n
      have hG0 : Hid (w.grownBy W0 (some b)) := by rw [hW0]; exact grownN w n _
      clear hW0 c0 c1
      have c0 := hR0.c0
      have c1 := hR0.c1
      rw [HPP.out] at c1
      have f1 := hR0.box.free 1
      have hlt0 := hR0.box.lt
      have HR0 := Lib.hid hR0
      clear hR0
      go_wp2
      go_quiet ((go_at_call 25; exact (HM.out _ _)))
      go_wp2
      refine wp_world ?_
      intro W hW
      have hR : RR W b s ((c :: l).drop k) 0 0 := by rw [hW]; exact (HR0.out.drewN _).move HS.out (v := .int .i64 ((p : Int) + k)) (by rw [HP2.out]; rfl)
      have hG : Hid (w.grownBy W (some b)) := by rw [hW]; exact hG0.out.trans ((grownN W0 _ _).trans (setCell_grown _ b 1 _))
      clear hW c0 c1 f1 hlt0
      have c0 := hR.c0
      have c1 := hR.c1
      rw [HP2.out] at c1
      have hlt2 := hR.box.lt
      have HR2 := Lib.hid hR
      clear hR
      have w1 : IntKind.i64.wrap (((p + k : Nat) : Int) - (k : Int)) = (p : Int) := by rw [show ((p + k : Nat) : Int) - (k : Int) = (p : Int) by omega]; exact IntWalk.i64_in _ (by omega)
      have w2 : (p : Int) ≤ ((p + k : Nat) : Int) := by omega
      have w3 : ((p + k : Nat) : Int) ≤ (s.size : Int) := by omega
      go_quiet (fail)
      go_wp2
      go_ret
      rw [HO.out]
      exact ⟨by rw [HX.out]; rfl, HR2.out.drewN nq, hG.out.trans (grownN W nq _)⟩

end Go.Proofs.Ytpchljiiappmnaa
