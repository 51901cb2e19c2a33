/- Walks of the program's reader: blanks, want, name; the conditions stand in the theorems. -/
import Derived.Test.YtpchljiiappmnaaK12
import Derived.Test.YtpchljiiappmnaaOwn2
namespace Go.Proofs.Ytpchljiiappmnaa
open Go Go.RowKit

/-- The post of a method that goes on in the text. -/
structure Goes (v : Value) (b : Nat) (s : S) (r : Bs) (ov : Value) (w : World) (e : Ending) (w' : World) : Prop where
  ret : e = .returned v
  rd : Rd w' b s r ov
  grown : w.grownBy w' (some b)
/-- The post of one at which something goes wrong. -/
structure Bad (x : Int) (s : S) (r : Bs) (b : Nat) (w : World) (e : Ending) (w' : World) : Prop where
  pan : e = .panicked [{ v := faultV x (pos s r), recovered := false }]
  grown : w.grownBy w' (some b)

def placeOf (w : World) (b : Nat) : Int := match w.cell? ⟨b, 1, none⟩ with
  | some (.int _ n) => n
  | _ => 0
theorem Rd.place {w : World} {b : Nat} {s : S} {l : Bs} {ov : Value} (h : Rd w b s l ov) : placeOf w b = pos s l := by unfold placeOf; rw [h.c1]

set_option maxRecDepth 100000 in
set_option maxHeartbeats 2000000 in
theorem blanks_any (b : Nat) (s : S) (l : Bs) (ov : Value) (w : World) (h : Rd w b s l ov) (hs : s.size ≤ 1000000) :
    Calls Try.prog 82 #[.pointer (some ⟨b, 0, none⟩)] w (Goes (.int .i64 (l.length - (blanks l).length : Nat)) b s (blanks l) ov w) := by
  have c1 := h.c1
  have hq : pos s l ≤ s.size := by have := pos_add h.suf; omega
  have HP : Hid (pos s l + l.length = s.size) := pos_add h.suf
  have HH := Lib.hid h
  clear h
  go_enter Try.func82, Try.ntmps82
  go_wp2
  clear c1
  go_loopw [] (fun wr => ∃ l', Rd wr b s l' ov ∧ w.grownBy wr (some b) ∧ Hid (blanks l = blanks l')) (fun wr => s.size - (placeOf wr b).toNat)
  case atStart => exact ⟨l, HH.out, World.grownBy.refl _ _, rfl⟩
  case round =>
    obtain ⟨l', hR, hg, HB⟩ := hrel
    have HR := Lib.hid hR
    have c0 := hR.c0
    have c1 := hR.c1
    have f1 := hR.f1
    have hlt := hR.box.lt
    have hpl := hR.place
    have HPL := Lib.hid hpl
    have hp := pos_add hR.suf
    clear hpl
    cases l' with
    | nil =>
      have HN : Hid (∀ n, Calls Try.prog 53 #[.pointer (some ⟨b, 0, none⟩)] (wr.drewN n) fun e w'' => e = .returned (.bool true) ∧ ∃ m, w'' = wr.drewN m) := fun n => Qt.quiet (ends_any b s [] ov (wr.drewN n) (HR.out.drewN n))
      have hp' : pos s [] ≤ s.size := by omega
      clear hR hp
      generalize hpp : pos s [] = p at *
      have HPP := Lib.hid hpp
      clear hpp
      go_wp2
      go_quiet ((go_at_call 53; exact HN.out _))
      go_wp2
      go_ret
      have hbl : blanks l = [] := HB.out
      refine ⟨ret_int ?_, ?_, hg.trans (grownN wr nq _)⟩
      · have h1 := HPP.out
        have h2 := HP.out
        rw [pos_nil] at h1
        rw [hbl]; simp; omega
      · rw [hbl]; exact HR.out.drewN nq
    | cons c r =>
      have HN : Hid (∀ n, Calls Try.prog 53 #[.pointer (some ⟨b, 0, none⟩)] (wr.drewN n) fun e w'' => e = .returned (.bool false) ∧ ∃ m, w'' = wr.drewN m) := fun n => Qt.quiet (ends_any b s (c :: r) ov (wr.drewN n) (HR.out.drewN n))
      have hpl := pos_lt hR.suf
      have HG := Lib.hid (pos_get hR.suf hpl)
      have HC := Lib.hid (pos_cons hR.suf)
      have hsuf := suf_tail hR.suf
      have HS := Lib.hid hsuf
      clear hR hp hsuf
      generalize hpp : pos s (c :: r) = p at *
      have HPP := Lib.hid hpp
      clear hpp
      have hpi : (p : Int) < (s.size : Int) := by omega
      have hpb : (p : Int) + 1 ≤ 9223372036854775807 := by omega
      cases hcb : cBlank c
      all_goals
        have HI : Hid (∀ n, Calls Try.prog 104 #[.int .u8 s[p].toNat] (wr.drewN n) fun e w'' => e = .returned (.bool _) ∧ ∃ m, w'' = wr.drewN m) := fun n => quietS (by have := isBlank_any s[p] (wr.drewN n); rw [HG.out, hcb] at this; rw [HG.out]; exact this)
        have HCB := Lib.hid hcb
        clear hcb
        go_wp2
        go_quiet ((first | (go_at_call 53; exact HN.out _) | (go_at_call 104; exact HI.out _)))
        go_wp2
      · go_ret
        have hbl : blanks l = c :: r := by rw [HB.out]; simp [blanks, HCB.out]
        refine ⟨ret_int ?_, ?_, hg.trans (grownN wr nq _)⟩
        · have h1 := HPP.out
          have h2 := HP.out
          have h3 := pos_add HR.out.suf
          have h4 := blanks_le l
          rw [hbl] at h4 ⊢
          omega
        · rw [hbl]; exact HR.out.drewN nq
      · go_roundw
        case rel =>
          refine ⟨r, (HR.out.drewN nq).move HS.out (by rw [HC.out]; rfl), ?_, ?_⟩
          · exact (hg.trans (grownN wr nq _)).trans (setCell_grown _ b 1 _)
          · show _ = _; rw [HB.out]; simp [blanks, HCB.out]
        case measure =>
          have h3 : placeOf ((wr.drewN nq).setCell ⟨b, 1, none⟩ (.int .i64 ((p : Int) + 1))) b = (p : Int) + 1 := by
            have := ((HR.out.drewN nq).move HS.out (v := .int .i64 ((p : Int) + 1)) (by rw [HC.out]; rfl)).place
            rw [this, HC.out]; omega
          rw [h3, HPL.out]; omega

/-- The post of a method that returns nothing. -/
theorem bs_one (c : UInt8) : (⟨#[c]⟩ : S).data.toList = [c] := rfl

set_option maxRecDepth 100000 in
set_option maxHeartbeats 2000000 in
theorem want_ok (b : Nat) (s : S) (c : UInt8) (r : Bs) (ov : Value) (w : World) (h : Rd w b s (c :: r) ov) (hs : s.size ≤ 1000000) :
    Calls Try.prog 83 #[.pointer (some ⟨b, 0, none⟩), .string ⟨#[c]⟩] w (Goes (.tuple #[]) b s r ov w) := by
  have c1 := h.c1
  have f1 := h.f1
  have hlt := h.box.lt
  have hpl := pos_lt h.suf
  have HN : Hid (Calls Try.prog 53 #[.pointer (some ⟨b, 0, none⟩)] w (Qt (.bool false) w)) := ends_any b s (c :: r) ov w h
  have HA : Hid (∀ n, Calls Try.prog 78 #[.pointer (some ⟨b, 0, none⟩), .string ⟨#[c]⟩] (w.drewN n) (Qt (.bool true) (w.drewN n))) := fun n => by
    have := has_pre b s (c :: r) ov ⟨#[c]⟩ (w.drewN n) (h.drewN n)
    rw [bs_one] at this
    simpa [List.isPrefixOf] using this
  have HC := Lib.hid (pos_cons h.suf)
  have HS := Lib.hid (suf_tail h.suf)
  have HR := Lib.hid h
  clear h
  generalize pos s (c :: r) = p at *
  go_enter Try.func83, Try.ntmps83
  go_wp2_with fail
  refine HN.out.mono ?_
  rintro e w' ⟨rfl, n, rfl⟩
  go_wp2_with fail
  refine (HA.out _).mono ?_
  rintro e w' ⟨rfl, n2, rfl⟩
  go_wp2
  go_end0
  refine ⟨rfl, ?_, ?_⟩
  · exact (HR.out.drewN _).move HS.out (v := .int .i64 ((p : Int) + 1)) (by rw [HC.out]; rfl)
  · exact (grownN w _ _).trans (setCell_grown _ b 1 _)

set_option maxRecDepth 100000 in
set_option maxHeartbeats 2000000 in
theorem want_no (b : Nat) (s : S) (c x : UInt8) (r : Bs) (ov : Value) (w : World) (h : Rd w b s (x :: r) ov) (hne : x ≠ c) :
    Calls Try.prog 83 #[.pointer (some ⟨b, 0, none⟩), .string ⟨#[c]⟩] w (Bad 10 s (x :: r) b w) := by
  have c1 := h.c1
  have hlt := h.box.lt
  have HN : Hid (Calls Try.prog 53 #[.pointer (some ⟨b, 0, none⟩)] w (Qt (.bool false) w)) := ends_any b s (x :: r) ov w h
  have HA : Hid (∀ n, Calls Try.prog 78 #[.pointer (some ⟨b, 0, none⟩), .string ⟨#[c]⟩] (w.drewN n) (Qt (.bool false) (w.drewN n))) := fun n => by
    have := has_pre b s (x :: r) ov ⟨#[c]⟩ (w.drewN n) (h.drewN n)
    rw [bs_one] at this
    have hcx : (c == x) = false := by simpa using Ne.symm hne
    simpa [List.isPrefixOf, hcx] using this
  clear h hne
  go_enter Try.func83, Try.ntmps83
  go_wp2_with fail
  refine HN.out.mono ?_
  rintro e w' ⟨rfl, n, rfl⟩
  go_wp2_with fail
  refine (HA.out _).mono ?_
  rintro e w' ⟨rfl, n2, rfl⟩
  go_wp2_with fail
  refine (fail_any _ _ _).mono ?_
  rintro e w' ⟨rfl, rfl⟩
  go_wp2
  exact ⟨rfl, rfl, grownN w _ _⟩

set_option maxRecDepth 100000 in
set_option maxHeartbeats 2000000 in
theorem want_end (b : Nat) (s : S) (t : S) (ov : Value) (w : World) (h : Rd w b s [] ov) :
    Calls Try.prog 83 #[.pointer (some ⟨b, 0, none⟩), .string t] w (Bad 13 s [] b w) := by
  have c1 := h.c1
  have hlt := h.box.lt
  have HN : Hid (Calls Try.prog 53 #[.pointer (some ⟨b, 0, none⟩)] w (Qt (.bool true) w)) := ends_any b s [] ov w h
  clear h
  go_enter Try.func83, Try.ntmps83
  go_wp2_with fail
  refine HN.out.mono ?_
  rintro e w' ⟨rfl, n, rfl⟩
  go_wp2_with fail
  refine (fail_any _ _ _).mono ?_
  rintro e w' ⟨rfl, rfl⟩
  go_wp2
  exact ⟨rfl, rfl, grownN w n _⟩

end Go.Proofs.Ytpchljiiappmnaa
