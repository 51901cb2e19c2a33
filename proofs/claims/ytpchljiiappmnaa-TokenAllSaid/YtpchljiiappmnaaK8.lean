/- Walks of digit, Letter, named; their conditions stand in the theorems. -/
import Derived.Test.YtpchljiiappmnaaK7
import Derived.Laws.Cover4
import Derived.IntWalk
namespace Go.Proofs.Ytpchljiiappmnaa
open Go Go.RowKit

theorem digitV_le (c : UInt8) (hex : Bool) : -1 ≤ digitV c hex ∧ digitV c hex ≤ 15 := by
  have := c.toNat_lt
  unfold digitV
  split
  · rename_i h; simp [cDigit] at h; omega
  · split
    · rename_i h; simp at h; omega
    · split
      · rename_i h; simp at h; omega
      · omega

set_option maxHeartbeats 1000000 in
theorem digit_any (c : UInt8) (hex : Bool) (w : World) : Calls Try.prog 141 #[.int .u8 c.toNat, .int .i64 (baseOf hex)] w fun e w' => e = .returned (.int .i64 (digitV c hex)) ∧ w = w' := by
  have hlt := c.toNat_lt
  cases hd : cDigit c
  · have HD := Lib.hid hd
    have hd' : ¬ (48 ≤ c.toNat ∧ c.toNat ≤ 57) := by simpa [cDigit] using hd
    clear hd
    cases hex
    · simp only [baseOf, Bool.false_eq_true, if_false]
      go_enter Try.func141, Try.ntmps141
      go_wp2_with (go_at_call 135; refine (isDigit_any _ _).mono ?_; rintro e w' ⟨rfl, rfl⟩; rw [HD.out])
      go_ret
      exact ⟨ret_int (by simp [digitV, HD.out]), rfl⟩
    · simp only [baseOf, if_true]
      have hc : (c.toNat : Int) < 65 ∨ (65 ≤ (c.toNat : Int) ∧ (c.toNat : Int) ≤ 70) ∨ (70 < (c.toNat : Int) ∧ (c.toNat : Int) < 97) ∨ (97 ≤ (c.toNat : Int) ∧ (c.toNat : Int) ≤ 102) ∨ 102 < (c.toNat : Int) := by omega
      rcases hc with h | ⟨h, h'⟩ | ⟨h, h'⟩ | ⟨h, h'⟩ | h
      all_goals
        go_enter Try.func141, Try.ntmps141
        go_wp2_with (go_at_call 135; refine (isDigit_any _ _).mono ?_; rintro e w' ⟨rfl, rfl⟩; rw [HD.out])
        go_ret
        refine ⟨ret_int ?_, rfl⟩
        simp (disch := omega) [digitV, HD.out, if_pos, if_neg]
        try omega
  · have HD := Lib.hid hd
    have hd' : 48 ≤ (c.toNat : Int) ∧ (c.toNat : Int) ≤ 57 := by simp [cDigit] at hd; omega
    obtain ⟨hd1, hd2⟩ := hd'
    clear hd
    go_enter Try.func141, Try.ntmps141
    go_wp2_with (go_at_call 135; refine (isDigit_any _ _).mono ?_; rintro e w' ⟨rfl, rfl⟩; rw [HD.out])
    go_ret
    exact ⟨ret_int (by simp [digitV, HD.out]), rfl⟩

/-- What named returns. -/
def namedB (w : Bs) : Bs := match named w with
  | some c => [c]
  | none => []

theorem str_lit (s : S) (l : Bs) : (s.toList == l) = decide (s.data.toList = l) := by
  rw [ByteArray.toList_eq, Bool.eq_iff_iff]; simp

set_option maxHeartbeats 1000000 in
theorem named_any (s : S) (w : World) : Calls Try.prog 132 #[.string s] w fun e w' => e = .returned (.string (bs (namedB s.data.toList))) ∧ w = w' := by
  go_enter Try.func132, Try.ntmps132
  go_wp2
  all_goals (go_ret; refine ⟨?_, rfl⟩; simp_all [namedB, named, wLt, wGt, wAmp, wQuot, wApos, str_lit, bs])

theorem encode_ok {n : Int} (h : okLetter n = true) : Utf8.encode n = bs (letterB n) := by
  simp only [okLetter, decide_eq_true_eq] at h
  have hv : Utf8.valid n = true := by simp [Utf8.valid]; omega
  unfold Utf8.encode letterB letterN
  rw [if_pos hv]
  simp only []
  split
  · rfl
  · split
    · rfl
    · split <;> rfl

set_option maxRecDepth 100000 in
set_option maxHeartbeats 1000000 in
theorem letter_ok (n : Int) (w : World) (h : okLetter n = true) : Calls Try.prog 142 #[.int .i64 n] w fun e w' => e = .returned (.tuple #[.string (bs (letterB n)), .bool true]) ∧ Below w.heap.size w w' := by
  have hE := Lib.hid (encode_ok h)
  have hh := h
  simp only [okLetter, decide_eq_true_eq] at hh
  have hcv : (convert 146 9 (.slice (some ⟨w.heap.size, 0, none⟩) 1 1)).run Try.prog (w.alloc (.cells #[.int .i32 n] 21)) = .ok (.string (bs (letterB n))) (w.alloc (.cells #[.int .i32 n] 21)) := by
    have := run_convert_runes (P := Try.prog) (w.alloc (.cells #[.int .i32 n] 21)) 146 9 21 ⟨w.heap.size, 0, none⟩ 1 1 [n] (by simp) Try.underlying146 Try.underlying21 Try.underlying9 (fun j hj => by
      match j, hj with
      | 0, _ => simp [Addr.add, go_sem])
    rw [this]
    simp [runesBytes, hE.out]
  have hw : IntKind.i32.wrap n = n := IntWalk.i32_in n (by omega)
  have hb : n = 9 ∨ n = 10 ∨ n = 13 ∨ (32 ≤ n ∧ n < 55296) ∨ (57343 < n ∧ n ≤ 1114111) := by omega
  clear hh hE
  rcases hb with rfl | rfl | rfl | ⟨h1, h2⟩ | ⟨h1, h2⟩
  all_goals
    try have e1 : (n == 9) = false := beq_eq_false_iff_ne.2 (by omega)
    try have e2 : (n == 10) = false := beq_eq_false_iff_ne.2 (by omega)
    try have e3 : (n == 13) = false := beq_eq_false_iff_ne.2 (by omega)
    go_enter Try.func142, Try.ntmps142
    go_wp2
    all_goals first | (exfalso; omega) | (go_ret2; exact ⟨rfl, (Below.refl _ _).alloc (Nat.le_refl _) _⟩)

set_option maxRecDepth 100000 in
set_option maxHeartbeats 1000000 in
theorem letter_no (n : Int) (w : World) (h : okLetter n = false) : Calls Try.prog 142 #[.int .i64 n] w fun e w' => e = .returned (.tuple #[.string (bs []), .bool false]) ∧ Below w.heap.size w w' := by
  simp only [okLetter, decide_eq_false_iff_not] at h
  have e1 : (n == 9) = false := beq_eq_false_iff_ne.2 (by omega)
  have e2 : (n == 10) = false := beq_eq_false_iff_ne.2 (by omega)
  have e3 : (n == 13) = false := beq_eq_false_iff_ne.2 (by omega)
  have hb : n < 32 ∨ 1114111 < n ∨ (55296 ≤ n ∧ n ≤ 57343) := by omega
  clear h
  rcases hb with h1 | h1 | ⟨h1, h2⟩
  all_goals
    go_enter Try.func142, Try.ntmps142
    go_wp2
    all_goals first | (exfalso; omega) | (go_ret2; exact ⟨rfl, Below.refl _ _⟩)

end Go.Proofs.Ytpchljiiappmnaa
