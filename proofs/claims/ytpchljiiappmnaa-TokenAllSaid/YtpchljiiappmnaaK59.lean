/- Walks of the document's reader: blanks, want, name; the conditions stand in the theorems. -/
import Derived.Test.YtpchljiiappmnaaK58
namespace Go.Proofs.Ytpchljiiappmnaa
open Go Go.RowKit

set_option maxRecDepth 100000 in
set_option maxHeartbeats 2000000 in
theorem rblanks_any (b : Nat) (s : S) (l : Bs) (x o : Int) (w : World) (h : RR w b s l x o) (hs : s.size ≤ 1000000) :
    Calls Try.prog 92 #[.pointer (some ⟨b, 0, none⟩)] w (RGo (.tuple #[]) b s (blanks l) x o w) := by
  have HH := Lib.hid h
  clear h
  go_enter Try.func92, Try.ntmps92
  go_wp2
  go_loopw [] (fun wr => ∃ l', RR wr b s l' x o ∧ w.grownBy wr (some b) ∧ Hid (blanks l = blanks l')) (fun wr => s.size - (placeOf wr b).toNat)
  case atStart => exact ⟨l, HH.out, World.grownBy.refl _ _, rfl⟩
  case round =>
    obtain ⟨l', hR, hg, HB⟩ := hrel
    have HR := Lib.hid hR
    have c0 := hR.c0
    have c1 := hR.c1
    have f1 := hR.box.free 1
    have hlt := hR.box.lt
    have hpl := hR.place
    have HPL := Lib.hid hpl
    have hp := pos_add hR.suf
    clear hpl
    cases l' with
    | nil =>
      have hp' : pos s [] = s.size := pos_nil s
      clear hR hp
      rw [hp'] at c1
      go_wp2
      go_quiet (fail)
      go_wp2
      go_end0
      have hbl : blanks l = [] := HB.out
      refine ⟨rfl, ?_, hg.trans (grownN wr nq _)⟩
      rw [hbl]; exact HR.out.drewN nq
    | cons c r =>
      have hpl := pos_lt hR.suf
      have HG := Lib.hid (pos_get hR.suf hpl)
      have HC := Lib.hid (pos_cons hR.suf)
      have hsuf := suf_tail hR.suf
      have HS := Lib.hid hsuf
      clear hR hp hsuf
      generalize hpp : pos s (c :: r) = p at *
      have HPP := Lib.hid hpp
      clear hpp
      have hpi : (p : Int) < (s.size : Int) := by omega
      have hpb : (p : Int) + 1 ≤ 9223372036854775807 := by omega
      have d1 : decide (p < s.size) = true := by rw [decide_eq_true_iff]; exact hpl
      have w1 : IntKind.i64.wrap ((p : Int) + 1) = (p : Int) + 1 := IntWalk.i64_in _ (by omega)
      cases hcb : cBlank c
      all_goals
        have HI : Hid (∀ n, Calls Try.prog 26 #[.int .u8 s[p].toNat, .int .i64 1] (wr.drewN n) fun e w'' => e = .returned (.bool _) ∧ ∃ m, w'' = wr.drewN m) := fun n => quietS (by have := is1_any s[p] (wr.drewN n); rw [HG.out, hcb] at this; rw [HG.out]; exact this)
        have HCB := Lib.hid hcb
        clear hcb
        go_wp2
        go_quiet ((go_at_call 26; exact HI.out _))
        go_wp2
      · go_end0
        have hbl : blanks l = c :: r := by rw [HB.out]; simp [blanks, HCB.out]
        refine ⟨rfl, ?_, hg.trans (grownN wr nq _)⟩
        rw [hbl]; exact HR.out.drewN nq
      · go_roundw
        case rel =>
          refine ⟨r, (HR.out.drewN nq).move HS.out (by rw [HC.out]; rfl), ?_, ?_⟩
          · exact (hg.trans (grownN wr nq _)).trans (setCell_grown _ b 1 _)
          · show _ = _; rw [HB.out]; simp [blanks, HCB.out]
        case measure =>
          have h3 : placeOf ((wr.drewN nq).setCell ⟨b, 1, none⟩ (.int .i64 ((p : Int) + 1))) b = (p : Int) + 1 := by
            have := ((HR.out.drewN nq).move HS.out (v := .int .i64 ((p : Int) + 1)) (by rw [HC.out]; rfl)).place
            rw [this, HC.out]; omega
          rw [h3, HPL.out]; omega

end Go.Proofs.Ytpchljiiappmnaa
