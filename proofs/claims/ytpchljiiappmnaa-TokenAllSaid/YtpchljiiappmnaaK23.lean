/- The program's reader's token, whole; its conditions stand in the theorem. -/
import Derived.Test.YtpchljiiappmnaaK20
import Derived.Test.YtpchljiiappmnaaK21
import Derived.Test.YtpchljiiappmnaaK22
namespace Go.Proofs.Ytpchljiiappmnaa
open Go Go.RowKit

theorem token_any (b : Nat) (s : S) (l : Bs) (ov : Value) (L : List TkM) (m : Int) (w : World) (h : Toks w b s l ov L) (hs : s.size ≤ 65536) (hm : w.cell? ⟨0, 0, none⟩ = some (.int .i64 m)) (hL : L.length ≤ 1000000) :
    Calls Try.prog 54 #[.pointer (some ⟨b, 0, none⟩)] w (OutT b s (pos s l) L w (tokenR (decide (pos s l = 0)) l)) := by
  obtain ⟨ao, cap, rfl⟩ := h.own.shape
  by_cases h1 : sNote.isPrefixOf l = true
  · have := tok_note b s l ao cap L m w h hs hm hL h1
    unfold tokenR; rw [if_pos h1]; exact this
  · have h1' := Bool.eq_false_iff.2 h1
    by_cases h2 : sData.isPrefixOf l = true
    · have := tok_data b s l ao cap L m w h hs hm hL h1' h2
      unfold tokenR; rw [if_neg h1, if_pos h2]; exact this
    · have h2' := Bool.eq_false_iff.2 h2
      by_cases h3 : (decide (pos s l = 0) && isHead l) = true
      · have h4 := h3
        rw [Bool.and_eq_true, decide_eq_true_eq] at h4
        have := tok_head b s l ao cap L m w h hs hm hL h1' h2' h4.1 h4.2
        unfold tokenR; rw [if_neg h1, if_neg h2, if_pos h3]; exact this
      · have hh : pos s l = 0 → isHead l = false := fun e => by
          cases hi : isHead l
          · rfl
          · exact absurd (by simp [e, hi]) h3
        unfold tokenR; rw [if_neg h1, if_neg h2, if_neg h3]
        split
        · rename_i l' 
          exact tok_close b s _ ao cap L m w h hs hm hL l' rfl h1' h2' hh
        · rename_i l' hx
          refine tok_open b s _ ao cap L m w h hs hm hL l' rfl ?_ h1' h2' hh
          cases l' with
          | nil => rfl
          | cons c r =>
            simp only [List.isPrefixOf, Bool.and_true]
            have : c ≠ 47 := fun e => hx r (by rw [e])
            simpa using Ne.symm this
        · rename_i hx hy
          refine tok_text b s _ ao cap L m w h hs hm hL h1' h2' hh ?_
          cases l with
          | nil => rfl
          | cons c r =>
            simp only [List.isPrefixOf, Bool.and_true]
            have : c ≠ 60 := fun e => hy r (by rw [e])
            simpa using Ne.symm this

end Go.Proofs.Ytpchljiiappmnaa
