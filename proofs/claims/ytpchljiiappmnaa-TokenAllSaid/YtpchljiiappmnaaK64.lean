/- The walk of the document's Letter, where there is one; the conditions stand in the theorems. -/
import Derived.Test.YtpchljiiappmnaaK63
import Derived.Laws.IdiomStrings
import Derived.Laws.BytesArg
namespace Go.Proofs.Ytpchljiiappmnaa
open Go Go.RowKit

theorem conv_bytes (w : World) (xs : List Int) (l : Bs) (h : xs.map (fun n => UInt8.ofNat n.toNat) = l) (C : Array Value) (hC : C = (xs.map (Value.int .u8)).toArray) (k : Nat) (hk : k = xs.length) :
    (convert 47 9 (.slice (some ⟨w.heap.size, 0, none⟩) k k)).run Try.prog (w.alloc (.cells C 5)) = .ok (.string (bs l)) (w.alloc (.cells C 5)) := by
  subst hk hC
  rw [run_convert_bytes_arg (P := Try.prog) (w.alloc (.cells (xs.map (Value.int .u8)).toArray 5)) 47 5 Try.underlying47 Try.underlying5 w.heap.size 0 xs.length xs.length xs rfl ?_ 9 Try.underlying9]
  · rw [← h]; rfl
  · intro i hi
    rw [World.cell?_alloc_mark]
    simp [List.getElem?_eq_getElem hi]

set_option maxRecDepth 100000 in
set_option maxHeartbeats 1000000 in
theorem rletter_1 (n : Int) (w : World) (h1 : okLetter n = true) (h2 : n < 128) : Calls Try.prog 134 #[.int .i64 n] w fun e w' => e = .returned (.string (bs (letterB n))) ∧ Below w.heap.size w w' := by
  simp only [okLetter, decide_eq_true_eq] at h1
  have hcv := conv_bytes w [n] (letterB n) (by
    unfold letterB letterN
    simp only [List.map]
    repeat (first | rw [if_pos (by omega)] | rw [if_neg (by omega)])
    try rw [show (n / 64 % 64).toNat = n.toNat / 64 % 64 by omega]
    ) #[.int .u8 (n)] rfl 1 rfl
  have hb : n = 9 ∨ n = 10 ∨ n = 13 ∨ (32 ≤ n ∧ n < 128) := by omega
  clear h1
  rcases hb with rfl | rfl | rfl | ⟨h3, h4⟩
  all_goals
    try have n1 : ¬ n = 9 := by omega
    try have n2 : ¬ n = 10 := by omega
    try have n3 : ¬ n = 13 := by omega
    try have e1 : (n == 9) = false := beq_eq_false_iff_ne.2 (by omega)
    try have e2 : (n == 10) = false := beq_eq_false_iff_ne.2 (by omega)
    try have e3 : (n == 13) = false := beq_eq_false_iff_ne.2 (by omega)
    go_enter Try.func134, Try.ntmps134
    go_wp2
    all_goals first | (exfalso; omega) | (go_ret; exact ⟨rfl, (Below.refl _ _).alloc (Nat.le_refl _) _⟩)

set_option maxRecDepth 100000 in
set_option maxHeartbeats 1000000 in
theorem rletter_2 (n : Int) (w : World) (h1 : 128 ≤ n) (h2 : n < 2048) : Calls Try.prog 134 #[.int .i64 n] w fun e w' => e = .returned (.string (bs (letterB n))) ∧ Below w.heap.size w w' := by
  have hcv := conv_bytes w [192 + n / 64, 128 + n % 64] (letterB n) (by
    unfold letterB letterN
    simp only [List.map]
    repeat (first | rw [if_pos (by omega)] | rw [if_neg (by omega)])
    try rw [show (n / 64 % 64).toNat = n.toNat / 64 % 64 by omega]
    skip
    all_goals (first | rfl | (simp only [List.cons.injEq, and_true]; refine ⟨?_, ?_⟩ <;> (congr 1; omega)))) #[.int .u8 (192 + n / 64), .int .u8 (128 + n % 64)] rfl 2 rfl
  have n1 : ¬ n = 9 := by omega
  have n2 : ¬ n = 10 := by omega
  have n3 : ¬ n = 13 := by omega
  have e1 : (n == 9) = false := beq_eq_false_iff_ne.2 (by omega)
  have e2 : (n == 10) = false := beq_eq_false_iff_ne.2 (by omega)
  have e3 : (n == 13) = false := beq_eq_false_iff_ne.2 (by omega)
  go_enter Try.func134, Try.ntmps134
  go_wp2
  all_goals first | (exfalso; omega) | (go_ret; exact ⟨rfl, (Below.refl _ _).alloc (Nat.le_refl _) _⟩)

set_option maxRecDepth 100000 in
set_option maxHeartbeats 1000000 in
theorem rletter_3 (n : Int) (w : World) (h1 : okLetter n = true ∧ 2048 ≤ n) (h2 : n < 65536) : Calls Try.prog 134 #[.int .i64 n] w fun e w' => e = .returned (.string (bs (letterB n))) ∧ Below w.heap.size w w' := by
  simp only [okLetter, decide_eq_true_eq] at h1
  have hcv := conv_bytes w [224 + n / 4096, 128 + n / 64 % 64, 128 + n % 64] (letterB n) (by
    unfold letterB letterN
    simp only [List.map]
    repeat (first | rw [if_pos (by omega)] | rw [if_neg (by omega)])
    try rw [show (n / 64 % 64).toNat = n.toNat / 64 % 64 by omega]
    skip
    all_goals (first | rfl | (simp only [List.cons.injEq, and_true]; refine ⟨?_, ?_, ?_⟩ <;> (congr 1; omega)))) #[.int .u8 (224 + n / 4096), .int .u8 (128 + n / 64 % 64), .int .u8 (128 + n % 64)] rfl 3 rfl
  have n1 : ¬ n = 9 := by omega
  have n2 : ¬ n = 10 := by omega
  have n3 : ¬ n = 13 := by omega
  have e1 : (n == 9) = false := beq_eq_false_iff_ne.2 (by omega)
  have e2 : (n == 10) = false := beq_eq_false_iff_ne.2 (by omega)
  have e3 : (n == 13) = false := beq_eq_false_iff_ne.2 (by omega)
  have hb : n < 55296 ∨ 57343 < n := by omega
  have h5 := h1.2
  clear h1
  rcases hb with h3 | h3
  all_goals
    go_enter Try.func134, Try.ntmps134
    go_wp2
    all_goals first | (exfalso; omega) | (go_ret; exact ⟨rfl, (Below.refl _ _).alloc (Nat.le_refl _) _⟩)

set_option maxRecDepth 100000 in
set_option maxHeartbeats 1000000 in
theorem rletter_4 (n : Int) (w : World) (h1 : 65536 ≤ n) (h2 : n ≤ 1114111) : Calls Try.prog 134 #[.int .i64 n] w fun e w' => e = .returned (.string (bs (letterB n))) ∧ Below w.heap.size w w' := by
  have hcv := conv_bytes w [240 + n / 262144, 128 + n / 4096 % 64, 128 + n / 64 % 64, 128 + n % 64] (letterB n) (by
    unfold letterB letterN
    simp only [List.map]
    repeat (first | rw [if_pos (by omega)] | rw [if_neg (by omega)])
    try rw [show (n / 64 % 64).toNat = n.toNat / 64 % 64 by omega]
    skip
    all_goals (first | rfl | (simp only [List.cons.injEq, and_true]; refine ⟨?_, ?_, ?_, ?_⟩ <;> (congr 1; omega)))) #[.int .u8 (240 + n / 262144), .int .u8 (128 + n / 4096 % 64), .int .u8 (128 + n / 64 % 64), .int .u8 (128 + n % 64)] rfl 4 rfl
  have n1 : ¬ n = 9 := by omega
  have n2 : ¬ n = 10 := by omega
  have n3 : ¬ n = 13 := by omega
  have e1 : (n == 9) = false := beq_eq_false_iff_ne.2 (by omega)
  have e2 : (n == 10) = false := beq_eq_false_iff_ne.2 (by omega)
  have e3 : (n == 13) = false := beq_eq_false_iff_ne.2 (by omega)
  go_enter Try.func134, Try.ntmps134
  go_wp2
  all_goals first | (exfalso; omega) | (go_ret; exact ⟨rfl, (Below.refl _ _).alloc (Nat.le_refl _) _⟩)

theorem rletter_ok (n : Int) (w : World) (h : okLetter n = true) : Calls Try.prog 134 #[.int .i64 n] w fun e w' => e = .returned (.string (bs (letterB n))) ∧ Below w.heap.size w w' := by
  have hh := h
  simp only [okLetter, decide_eq_true_eq] at hh
  by_cases h1 : n < 128
  · exact rletter_1 n w h h1
  · by_cases h2 : n < 2048
    · exact rletter_2 n w (by omega) h2
    · by_cases h3 : n < 65536
      · exact rletter_3 n w ⟨h, by omega⟩ h3
      · exact rletter_4 n w (by omega) (by omega)

end Go.Proofs.Ytpchljiiappmnaa
