/- Walks of number and its closure; their conditions stand in the theorems. -/
import Derived.Test.YtpchljiiappmnaaK8
import Derived.Test.YtpchljiiappmnaaShelf
namespace Go.Proofs.Ytpchljiiappmnaa
open Go Go.RowKit

set_option maxHeartbeats 1000000 in
theorem isDig_any (c : UInt8) (hex : Bool) (b : Nat) (w : World) (hc : w.cell? ⟨b, 0, none⟩ = some (.int .i64 (baseOf hex))) :
    Calls Try.prog 140 #[.int .u8 c.toNat, .pointer (some ⟨b, 0, none⟩)] w fun e w' => e = .returned (.bool (isDig hex c)) ∧ w = w' := by
  go_enter Try.func140, Try.ntmps140
  go_wp2_with (go_at_call 141; refine (digit_any c hex _).mono ?_; rintro e w' ⟨rfl, rfl⟩)
  go_ret
  exact ⟨rfl, rfl⟩

set_option maxHeartbeats 1000000 in
theorem spanDig_any (s : S) (w : World) (hex : Bool) (b : Nat) (hc : w.cell? ⟨b, 0, none⟩ = some (.int .i64 (baseOf hex))) (hs : s.size ≤ 9223372036854775807) :
    Calls Try.prog 103 #[.string s, .func (.func 140) #[] #[.pointer (some ⟨b, 0, none⟩)]] w fun e w' => e = .returned (.int .i64 (span (isDig hex) s.data.toList)) ∧ w = w' := by
  have hsp := span_le (isDig hex) s.data.toList
  rw [size_data] at hsp
  go_enter Try.func103, Try.ntmps103
  go_wp2
  go_loop [5] (fun i => ∃ k : Nat, k ≤ s.size ∧ i = .int .i64 k ∧ Hid (span (isDig hex) s.data.toList = k + span (isDig hex) (s.data.toList.drop k))) (fun i => s.size - (intOf i).toNat)
  case atStart => exact ⟨0, Nat.zero_le _, rfl, by show _ = _; simp⟩
  case round =>
    obtain ⟨k, hk, rfl, H⟩ := hrel
    by_cases hlt : k < s.size
    · have HD := Lib.hid (drop_byte s k hlt)
      cases hp : isDig hex s[k]
      all_goals
        have HP := Lib.hid hp
        clear hp
        go_wp2_with (go_at_call 140; refine (isDig_any _ hex b _ hc).mono ?_; rintro e w' ⟨rfl, rfl⟩; rw [HP.out])
      · go_ret
        exact ⟨ret_int (by rw [H.out, HD.out]; simp [span, HP.out]), rfl⟩
      · go_round
        case rel => exact ⟨k + 1, by omega, by go_num, by show _ = _; rw [H.out, HD.out]; simp only [span, HP.out, if_true]; omega⟩
        case measure => simp [intOf]; omega
    · go_wp2
      go_ret
      exact ⟨ret_int (by rw [H.out, List.drop_of_length_le (by rw [size_data]; omega)]; simp [span]), rfl⟩

def refTuple : RefR → Value
  | .ok t n => .tuple #[.string (bs t), .int .i64 n, .int .i64 0]
  | .bad e => .tuple #[.string (bs []), .int .i64 0, .int .i64 e]

theorem numV_snoc (hex : Bool) (l : Bs) (c : UInt8) : numV hex (l ++ [c]) = numV hex l * baseOf hex + digitV c hex := by
  unfold numV; rw [List.foldl_append]; rfl
theorem numV_bd (hex : Bool) (l : Bs) (h : ∀ c ∈ l, isDig hex c = true) : 0 ≤ numV hex l ∧ numV hex l < 16 ^ l.length := by
  induction l using snoc_ind with
  | h0 => simp [numV]
  | h1 l c ih =>
    obtain ⟨h1, h2⟩ := ih fun d hd => h d (by simp [hd])
    have h3 := h c (by simp)
    have h4 := digitV_le c hex
    simp only [isDig, decide_eq_true_eq] at h3
    rw [numV_snoc, List.length_append, List.length_singleton, Int.pow_succ]
    generalize (16 : Int) ^ l.length = q at *
    cases hex <;> simp only [baseOf, if_true, Bool.false_eq_true, if_false] <;> omega

theorem numV_small (hex : Bool) (l : Bs) (h : ∀ c ∈ l, isDig hex c = true) (hl : l.length ≤ 8) : 0 ≤ numV hex l ∧ numV hex l < 4294967296 := by
  obtain ⟨h1, h2⟩ := numV_bd hex l h
  have h3 : (16 : Int) ^ l.length ≤ 4294967296 := by
    generalize l.length = n at hl
    match n, hl with
    | 0, _ => decide
    | 1, _ => decide
    | 2, _ => decide
    | 3, _ => decide
    | 4, _ => decide
    | 5, _ => decide
    | 6, _ => decide
    | 7, _ => decide
    | 8, _ => decide
  omega

theorem belowN {B : Nat} {w w' : World} (h : Below B w w') (n : Nat) : Below B w (w'.drewN n) := ⟨h.os, h.tape, h.output, h.size, fun k hk => h.block k hk⟩

end Go.Proofs.Ytpchljiiappmnaa
