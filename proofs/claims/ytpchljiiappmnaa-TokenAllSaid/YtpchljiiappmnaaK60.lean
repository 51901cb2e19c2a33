/- Walks of the document's reader: want, name; the conditions stand in the theorems. -/
import Derived.Test.YtpchljiiappmnaaK59
namespace Go.Proofs.Ytpchljiiappmnaa
open Go Go.RowKit

/-- The post of a method: what is read, or what goes wrong. -/
def ROut {α : Type} (f : α → Value) (d : Value) (b : Nat) (s : S) (w : World) : Res α → Ending → World → Prop
  | .ok a r => RGo (f a) b s r 0 0 w
  | .bad e r => fun x w' => ∃ l', RGo d b s l' e (pos s r : Nat) w x w'

theorem ne_u8 {x c : UInt8} (h : x ≠ c) : ((x.toNat : Int) == (c.toNat : Int)) = false := by
  rw [beq_eq_false_iff_ne]
  intro h2
  exact h (UInt8.toNat_inj.1 (by omega))

set_option maxHeartbeats 1000000 in
theorem rwant_bad (b : Nat) (s : S) (c : UInt8) (l : Bs) (x o : Int) (w : World) (h : RR w b s l x o) (hx : x ≠ 0) :
    Calls Try.prog 93 #[.pointer (some ⟨b, 0, none⟩), .int .u8 c.toNat] w (RGo (.tuple #[]) b s l x o w) := by
  have HN : Hid (Calls Try.prog 119 #[.pointer (some ⟨b, 0, none⟩)] w (Qt (.bool true) w)) := rend_bad b s l x o w h hx
  have HR := Lib.hid h
  clear h hx
  go_enter Try.func93, Try.ntmps93
  go_wp2_with fail
  refine HN.out.mono ?_
  rintro e w' ⟨rfl, n, rfl⟩
  go_wp2
  go_end0
  exact ⟨rfl, HR.out.drewN n, grownN w n _⟩

set_option maxRecDepth 100000 in
set_option maxHeartbeats 1000000 in
theorem rwant_any (b : Nat) (s : S) (c : UInt8) (l : Bs) (w : World) (h : RR w b s l 0 0) (hs : s.size ≤ 1000000) :
    Calls Try.prog 93 #[.pointer (some ⟨b, 0, none⟩), .int .u8 c.toNat] w (ROut (fun _ => .tuple #[]) (.tuple #[]) b s w (wantC c l)) := by
  cases l with
  | nil =>
    have HN : Hid (Calls Try.prog 119 #[.pointer (some ⟨b, 0, none⟩)] w (RGo (.bool true) b s [] 13 s.size w)) := rend_end b s 0 w h
    clear h
    go_enter Try.func93, Try.ntmps93
    go_wp2_with fail
    refine HN.out.mono ?_
    rintro e w' ⟨rfl, hR, hG⟩
    go_wp2
    go_end0
    exact ⟨[], rfl, by rw [pos_nil]; exact hR, hG⟩
  | cons x r =>
    have HN : Hid (Calls Try.prog 119 #[.pointer (some ⟨b, 0, none⟩)] w (Qt (.bool false) w)) := rend_no b s x r w 0 h
    have HA : Hid (∀ n, Calls Try.prog 89 #[.pointer (some ⟨b, 0, none⟩), .int .i64 0] (w.drewN n) (Qt (.int .u8 x.toNat) (w.drewN n))) := fun n => rat_any b s (x :: r) 0 0 0 (w.drewN n) (h.drewN n) hs (by omega)
    have HF : Hid (∀ n z, Calls Try.prog 120 #[.pointer (some ⟨b, 0, none⟩), .int .i64 10, .int .i64 z] (w.drewN n) (RGo (.tuple #[]) b s (x :: r) 10 z (w.drewN n))) := fun n z => rfail_go b s (x :: r) 0 10 z (w.drewN n) (h.drewN n)
    have HC := Lib.hid (pos_cons h.suf)
    have HS := Lib.hid (suf_tail h.suf)
    have hpl := pos_lt h.suf
    have hlt := h.box.lt
    have HR := Lib.hid h
    clear h
    generalize hpp : pos s (x :: r) = p at *
    have HPP := Lib.hid hpp
    clear hpp
    have w1 : IntKind.i64.wrap ((p : Int) + 1) = (p : Int) + 1 := IntWalk.i64_in _ (by omega)
    by_cases hx : x = c
    · subst hx
      simp only [wantC, if_true]
      go_enter Try.func93, Try.ntmps93
      go_wp2_with fail
      refine HN.out.mono ?_
      rintro e w' ⟨rfl, n, rfl⟩
      go_wp2_with fail
      refine (HA.out _).mono ?_
      rintro e w' ⟨rfl, n2, rfl⟩
      have c1 := (HR.out.drewN (n + n2)).c1
      rw [HPP.out] at c1
      have f1 := (HR.out.drewN (n + n2)).box.free 1
      go_wp2
      go_end0
      refine ⟨rfl, ?_, ?_⟩
      · exact (HR.out.drewN _).move HS.out (v := .int .i64 ((p : Int) + 1)) (by rw [HC.out]; rfl)
      · exact (grownN w _ _).trans (setCell_grown _ b 1 _)
    · simp only [wantC, hx, if_false]
      have e1 := ne_u8 hx
      clear hx
      go_enter Try.func93, Try.ntmps93
      go_wp2_with fail
      refine HN.out.mono ?_
      rintro e w' ⟨rfl, n, rfl⟩
      go_wp2_with fail
      refine (HA.out _).mono ?_
      rintro e w' ⟨rfl, n2, rfl⟩
      have c1 := (HR.out.drewN (n + n2)).c1
      rw [HPP.out] at c1
      go_wp2_with fail
      refine ((HF.out _ _)).mono ?_
      rintro e w' ⟨rfl, hR, hG⟩
      go_wp2
      go_end0
      exact ⟨x :: r, rfl, by rw [HPP.out]; exact hR, (grownN w _ _).trans hG⟩

end Go.Proofs.Ytpchljiiappmnaa
