/- Walks of the document's reader: begins, end; the conditions stand in the theorems. -/
import Derived.Test.YtpchljiiappmnaaK57
import Derived.Test.YtpchljiiappmnaaK42
namespace Go.Proofs.Ytpchljiiappmnaa
open Go Go.RowKit

set_option maxRecDepth 100000 in
set_option maxHeartbeats 1000000 in
theorem rbegins_any (b : Nat) (s t : S) (l : Bs) (x o : Int) (w : World) (h : RR w b s l x o) (hs : s.size ≤ 1000000) :
    Calls Try.prog 87 #[.pointer (some ⟨b, 0, none⟩), .string t] w (Qt (.bool (t.data.toList.isPrefixOf l)) w) := by
  have c0 := h.c0
  have c1 := h.c1
  have hp := pos_add h.suf
  have hd := pos_drop h.suf
  have hlt := h.box.lt
  have hts := size_data t
  obtain ⟨m, hm⟩ : ∃ m, m = l.length := ⟨_, rfl⟩
  have HM := Lib.hid hm
  rw [← hm] at hp
  by_cases hk : t.size ≤ m
  · obtain ⟨q, hq⟩ : ∃ q, q = pos s l + t.size := ⟨_, rfl⟩
    have HV : Hid (((s.extract (pos s l) q).toList == t.toList) = t.data.toList.isPrefixOf l) := by
      show _ = _
      have h1 : s.extract (pos s l) q = bs (l.take t.size) := by rw [Lib.extract_eq, hd, hq, Nat.add_sub_cancel_left]; rfl
      have h2 := bs_beq (l.take t.size) t.data.toList
      rw [data_bs] at h2
      rw [h1, h2]
      rw [← hts]
      by_cases hpre : t.data.toList <+: l
      · rw [List.isPrefixOf_iff_prefix.2 hpre, decide_eq_true_iff]
        exact (List.prefix_iff_eq_take.1 hpre).symm
      · have : t.data.toList.isPrefixOf l = false := by
          cases hh : t.data.toList.isPrefixOf l
          · rfl
          · exact absurd (List.isPrefixOf_iff_prefix.1 hh) hpre
        rw [this, decide_eq_false_iff_not]
        intro h2
        exact hpre (List.prefix_iff_eq_take.2 h2.symm)
    clear h hd hm
    generalize pos s l = p at *
    have w1 : IntKind.i64.wrap ((s.size : Int) - (p : Int)) = (m : Int) := by rw [IntWalk.i64_in _ (by omega)]; omega
    have w2 : IntKind.i64.wrap ((p : Int) + (t.size : Int)) = (q : Int) := by rw [IntWalk.i64_in _ (by omega)]; omega
    have d1 : decide (t.size ≤ m) = true := by rw [decide_eq_true_iff]; exact hk
    have d2 : (p : Int) ≤ (q : Int) := by omega
    have d3 : (q : Int) ≤ (s.size : Int) := by omega
    clear hq hts
    go_enter Try.func87, Try.ntmps87
    go_wp2
    go_quiet (fail)
    go_wp2
    go_ret
    exact ⟨ret_bool HV.out, _, rfl⟩
  · have HV : Hid (t.data.toList.isPrefixOf l = false) := by
      show _ = _
      cases hh : t.data.toList.isPrefixOf l
      · rfl
      · have := (List.isPrefixOf_iff_prefix.1 hh).length_le
        omega
    clear h hd hm
    generalize pos s l = p at *
    have w1 : IntKind.i64.wrap ((s.size : Int) - (p : Int)) = (m : Int) := by rw [IntWalk.i64_in _ (by omega)]; omega
    have d1 : decide (t.size ≤ m) = false := by rw [decide_eq_false_iff_not]; exact hk
    clear hts
    go_enter Try.func87, Try.ntmps87
    go_wp2
    go_quiet (fail)
    go_wp2
    go_ret
    exact ⟨ret_bool HV.out.symm, _, rfl⟩

set_option maxHeartbeats 1000000 in
theorem rend_no (b : Nat) (s : S) (c : UInt8) (l : Bs) (w : World) (o : Int) (h : RR w b s (c :: l) 0 o) :
    Calls Try.prog 119 #[.pointer (some ⟨b, 0, none⟩)] w (Qt (.bool false) w) := by
  have c0 := h.c0
  have c1 := h.c1
  have c2 := h.c2
  have hlt := h.box.lt
  have hpl := pos_lt h.suf
  have HR := Lib.hid h
  clear h
  generalize pos s (c :: l) = p at *
  have d1 : decide (s.size ≤ p) = false := by rw [decide_eq_false_iff_not]; omega
  clear c2
  go_enter Try.func119, Try.ntmps119
  go_wp2
  go_quiet (fail)
  have c2 := (HR.out.drewN nq).c2
  go_wp2
  go_ret
  exact ⟨rfl, _, rfl⟩

set_option maxHeartbeats 1000000 in
theorem rend_bad (b : Nat) (s : S) (l : Bs) (x o : Int) (w : World) (h : RR w b s l x o) (hx : x ≠ 0) :
    Calls Try.prog 119 #[.pointer (some ⟨b, 0, none⟩)] w (Qt (.bool true) w) := by
  have c0 := h.c0
  have c1 := h.c1
  have hlt := h.box.lt
  have hp := pos_add h.suf
  have HR := Lib.hid h
  have HX : Hid (x ≠ 0) := hx
  have HF : Hid (∀ n y z, Calls Try.prog 120 #[.pointer (some ⟨b, 0, none⟩), .int .i64 y, .int .i64 z] (w.drewN n) fun e w' => e = .returned (.tuple #[]) ∧ (w.drewN n) = w') := fun n y z => rfail_no b s l x o y z (w.drewN n) (h.drewN n) hx
  clear h hx
  generalize pos s l = p at *
  by_cases hh : s.size ≤ p
  · have d1 : decide (s.size ≤ p) = true := by rw [decide_eq_true_iff]; exact hh
    go_enter Try.func119, Try.ntmps119
    go_wp2
    go_quiet (fail)
    have c0 := (HR.out.drewN nq).c0
    go_wp2_with fail
    refine (HF.out _ _ _).mono ?_
    rintro e w' ⟨rfl, rfl⟩
    have c2 := (HR.out.drewN nq).c2
    go_wp2
    go_ret
    exact ⟨ret_bool (by simp; exact HX.out), _, rfl⟩
  · have d1 : decide (s.size ≤ p) = false := by rw [decide_eq_false_iff_not]; exact hh
    go_enter Try.func119, Try.ntmps119
    go_wp2
    go_quiet (fail)
    have c2 := (HR.out.drewN nq).c2
    go_wp2
    go_ret
    exact ⟨ret_bool (by simp; exact HX.out), _, rfl⟩

set_option maxHeartbeats 1000000 in
theorem rend_end (b : Nat) (s : S) (o : Int) (w : World) (h : RR w b s [] 0 o) :
    Calls Try.prog 119 #[.pointer (some ⟨b, 0, none⟩)] w (RGo (.bool true) b s [] 13 s.size w) := by
  have c0 := h.c0
  have c1 := h.c1
  have hlt := h.box.lt
  have hp := pos_add h.suf
  have HR := Lib.hid h
  have HF : Hid (∀ n z, Calls Try.prog 120 #[.pointer (some ⟨b, 0, none⟩), .int .i64 13, .int .i64 z] (w.drewN n) (RGo (.tuple #[]) b s [] 13 z (w.drewN n))) := fun n z => rfail_go b s [] o 13 z (w.drewN n) (h.drewN n)
  clear h
  generalize pos s [] = p at *
  have d1 : decide (s.size ≤ p) = true := by rw [decide_eq_true_iff]; simp at hp; omega
  go_enter Try.func119, Try.ntmps119
  go_wp2
  go_quiet (fail)
  have c0 := (HR.out.drewN nq).c0
  go_wp2_with fail
  refine (HF.out _ _).mono ?_
  rintro e w' ⟨rfl, hR, hG⟩
  have c2 := hR.c2
  have hlt2 := hR.box.lt
  have HR2 := Lib.hid hR
  have HG := Lib.hid hG
  clear hR hG
  go_wp2
  go_ret
  exact ⟨rfl, HR2.out, (grownN w _ _).trans HG.out⟩

end Go.Proofs.Ytpchljiiappmnaa
