/- Walks of the predicates on bytes, the program's and the document's; their conditions stand in the theorems. -/
import Derived.Test.YtphaeegbmfpcgaaGreatDoorProg
import Derived.Test.YtphaeegbmfpcgaaGreatDoorFB01
import Derived.WalkKit
import Derived.WalkSpells
import Derived.WalkLawsBesides
import Derived.Deep.QuietTactic
import Derived.BigQuiet
import Derived.Lib.Hide
import Derived.LoopTactic
import Derived.Laws.Cover4
import Derived.IntWalk
import Derived.Test.YtphaeegbmfpcgaaGreatDoorShelf
namespace Go.Proofs.YtphaeegbmfpcgaaGreatDoor
open Go Go.RowKit

theorem isBlank_any (c : UInt8) (w : World) : Calls Tryz.prog 191 #[.int .u8 c.toNat] w fun e w' => e = .returned (.bool (cBlank c)) ∧ w = w' := by
 go_enter Tryz.func191, Tryz.ntmps191
 go_wp2
 all_goals (go_ret; exact ⟨ret_bool (by rw [Bool.eq_iff_iff]; simp [cBlank]; omega), rfl⟩)
theorem isDigit_any (c : UInt8) (w : World) : Calls Tryz.prog 93 #[.int .u8 c.toNat] w fun e w' => e = .returned (.bool (cDigit c)) ∧ w = w' := by
 go_enter Tryz.func93, Tryz.ntmps93
 go_wp2
 all_goals (go_ret; exact ⟨ret_bool (by rw [Bool.eq_iff_iff]; simp [cDigit]; omega), rfl⟩)
theorem isLower_any (c : UInt8) (w : World) : Calls Tryz.prog 211 #[.int .u8 c.toNat] w fun e w' => e = .returned (.bool (cLower c)) ∧ w = w' := by
 go_enter Tryz.func211, Tryz.ntmps211
 go_wp2
 all_goals (go_ret; exact ⟨ret_bool (by rw [Bool.eq_iff_iff]; simp [cLower]; omega), rfl⟩)
set_option maxHeartbeats 1000000 in
theorem isFirst_any (c : UInt8) (w : World) : Calls Tryz.prog 174 #[.int .u8 c.toNat] w fun e w' => e = .returned (.bool (cFirst c)) ∧ w = w' := by
 go_enter Tryz.func174, Tryz.ntmps174
 go_wp2
 all_goals (go_ret; exact ⟨ret_bool (by rw [Bool.eq_iff_iff]; simp [cFirst]; omega), rfl⟩)
set_option maxHeartbeats 1000000 in
theorem isText_any (c : UInt8) (w : World) : Calls Tryz.prog 189 #[.int .u8 c.toNat] w fun e w' => e = .returned (.bool (cText c)) ∧ w = w' := by
 by_cases h : 32 ≤ (c.toNat : Int)
 · go_enter Tryz.func189, Tryz.ntmps189
   go_wp2
   go_ret
   exact ⟨ret_bool (by have : 32 ≤ c.toNat := by omega
                       simp [cText, this]), rfl⟩
 · go_enter Tryz.func189, Tryz.ntmps189
   go_wp2_with (go_at_call 191; refine (isBlank_any c _).mono ?_; rintro e w' ⟨rfl, rfl⟩)
   go_ret
   exact ⟨ret_bool (by have : ¬ 32 ≤ c.toNat := by omega
                       simp [cText, this]), rfl⟩
set_option maxHeartbeats 1000000 in
theorem isName_any (c : UInt8) (w : World) : Calls Tryz.prog 135 #[.int .u8 c.toNat] w fun e w' => e = .returned (.bool (cName c)) ∧ w = w' := by
 cases h1 : cFirst c
 · cases h2 : cDigit c
   · go_enter Tryz.func135, Tryz.ntmps135
     go_wp2_with (first | (go_at_call 174; refine (isFirst_any c _).mono ?_; rintro e w' ⟨rfl, rfl⟩; rw [h1]) | (go_at_call 93; refine (isDigit_any c _).mono ?_; rintro e w' ⟨rfl, rfl⟩; rw [h2]))
     all_goals (go_ret; exact ⟨ret_bool (by rw [Bool.eq_iff_iff]; simp [cName, h1, h2]; omega), rfl⟩)
   · go_enter Tryz.func135, Tryz.ntmps135
     go_wp2_with (first | (go_at_call 174; refine (isFirst_any c _).mono ?_; rintro e w' ⟨rfl, rfl⟩; rw [h1]) | (go_at_call 93; refine (isDigit_any c _).mono ?_; rintro e w' ⟨rfl, rfl⟩; rw [h2]))
     go_ret
     exact ⟨ret_bool (by simp [cName, h2]), rfl⟩
 · go_enter Tryz.func135, Tryz.ntmps135
   go_wp2_with (go_at_call 174; refine (isFirst_any c _).mono ?_; rintro e w' ⟨rfl, rfl⟩; rw [h1])
   go_ret
   exact ⟨ret_bool (by simp [cName, h1]), rfl⟩

end Go.Proofs.YtphaeegbmfpcgaaGreatDoor

/- Walks of the document's Is and of span and Name, the program's and the document's; their conditions stand in the theorems. -/
namespace Go.Proofs.YtphaeegbmfpcgaaGreatDoor
open Go Go.RowKit

theorem drop_byte (s : S) (k : Nat) (h : k < s.size) : s.data.toList.drop k = s[k] :: s.data.toList.drop (k + 1) := by
 rw [List.drop_eq_getElem_cons (by simpa using h)]; rfl
theorem size_data (s : S) : s.data.toList.length = s.size := (Lib.size_eq s).symm
set_option maxHeartbeats 1000000 in
theorem spanName_any (s : S) (w : World) (hs : s.size ≤ 9223372036854775807) :
    Calls Tryz.prog 198 #[.string s, .func (.func 135) #[] #[]] w fun e w' => e = .returned (.int .i64 (span (cName) s.data.toList)) ∧ w = w' := by
 have hsp := span_le (cName) s.data.toList
 rw [size_data] at hsp
 go_enter Tryz.func198, Tryz.ntmps198
 go_wp2
 go_loop [5] (fun i => ∃ k : Nat, k ≤ s.size ∧ i = .int .i64 k ∧ Hid (span (cName) s.data.toList = k + span (cName) (s.data.toList.drop k))) (fun i => s.size - (intOf i).toNat)
 case atStart => exact ⟨0, Nat.zero_le _, rfl, by show _ = _; simp⟩
 case round =>
  obtain ⟨k, hk, rfl, H⟩ := hrel
  by_cases hlt : k < s.size
  · have HD := Lib.hid (drop_byte s k hlt)
    cases hp : cName s[k]
    all_goals
     have HP := Lib.hid hp
     clear hp
     go_wp2_with (go_at_call 135; refine (isName_any _ _).mono ?_; rintro e w' ⟨rfl, rfl⟩; rw [HP.out])
    · go_ret
      exact ⟨ret_int (by rw [H.out, HD.out]; simp [span, HP.out]), rfl⟩
    · go_round
      case rel => exact ⟨k + 1, by omega, by go_num, by show _ = _; rw [H.out, HD.out]; simp only [span, HP.out, if_true]; omega⟩
      case measure => simp [intOf]; omega
  · go_wp2
    go_ret
    exact ⟨ret_int (by rw [H.out, List.drop_of_length_le (by rw [size_data]; omega)]; simp [span]), rfl⟩
set_option maxHeartbeats 1000000 in
theorem spanLower_any (s : S) (w : World) (hs : s.size ≤ 9223372036854775807) :
    Calls Tryz.prog 198 #[.string s, .func (.func 211) #[] #[]] w fun e w' => e = .returned (.int .i64 (span (cLower) s.data.toList)) ∧ w = w' := by
 have hsp := span_le (cLower) s.data.toList
 rw [size_data] at hsp
 go_enter Tryz.func198, Tryz.ntmps198
 go_wp2
 go_loop [5] (fun i => ∃ k : Nat, k ≤ s.size ∧ i = .int .i64 k ∧ Hid (span (cLower) s.data.toList = k + span (cLower) (s.data.toList.drop k))) (fun i => s.size - (intOf i).toNat)
 case atStart => exact ⟨0, Nat.zero_le _, rfl, by show _ = _; simp⟩
 case round =>
  obtain ⟨k, hk, rfl, H⟩ := hrel
  by_cases hlt : k < s.size
  · have HD := Lib.hid (drop_byte s k hlt)
    cases hp : cLower s[k]
    all_goals
     have HP := Lib.hid hp
     clear hp
     go_wp2_with (go_at_call 211; refine (isLower_any _ _).mono ?_; rintro e w' ⟨rfl, rfl⟩; rw [HP.out])
    · go_ret
      exact ⟨ret_int (by rw [H.out, HD.out]; simp [span, HP.out]), rfl⟩
    · go_round
      case rel => exact ⟨k + 1, by omega, by go_num, by show _ = _; rw [H.out, HD.out]; simp only [span, HP.out, if_true]; omega⟩
      case measure => simp [intOf]; omega
  · go_wp2
    go_ret
    exact ⟨ret_int (by rw [H.out, List.drop_of_length_le (by rw [size_data]; omega)]; simp [span]), rfl⟩

end Go.Proofs.YtphaeegbmfpcgaaGreatDoor

/- Walks of Name, the program's and the document's; their conditions stand in the theorems. -/

namespace Go.Proofs.YtphaeegbmfpcgaaGreatDoor
open Go Go.RowKit

theorem empty_data (s : S) : s.toList.isEmpty = decide (s.size = 0) := by
 have h : s.toList.length = s.size := by rw [ByteArray.toList_eq]; exact size_data s
 rw [← h]
 cases s.toList <;> simp
set_option maxHeartbeats 1000000 in
theorem name_any (s : S) (w : World) (hs : s.size ≤ 9223372036854775807) :
    Calls Tryz.prog 192 #[.string s] w fun e w' => e = .returned (.int .i64 (nameLen s.data.toList)) ∧ w = w' := by
 have hE0 := empty_data s
 by_cases h0 : s.size = 0
 · have hE : s.toList.isEmpty = true := by rw [hE0]; simpa using h0
   clear hE0
   have hd : s.data.toList = [] := List.eq_nil_of_length_eq_zero (by rw [size_data, h0])
   rw [hd]
   clear hd h0
   go_enter Tryz.func192, Tryz.ntmps192
   go_wp2
   go_ret
   exact ⟨rfl, rfl⟩
 · have hE : s.toList.isEmpty = false := by rw [hE0]; simpa using h0
   clear hE0
   have h1 : 0 < s.size := by omega
   have HD := Lib.hid (drop_byte s 0 h1)
   clear h0
   cases hp : cFirst s[0]
   all_goals
    have HP := Lib.hid hp
    clear hp
    go_enter Tryz.func192, Tryz.ntmps192
    go_wp2_with (first | (go_at_call 174; refine (isFirst_any _ _).mono ?_; rintro e w' ⟨rfl, rfl⟩; rw [HP.out]) | (go_at_call 198; refine (spanName_any s _ hs).mono ?_; rintro e w' ⟨rfl, rfl⟩))
    go_ret
    refine ⟨ret_int ?_, rfl⟩
    have h2 := HD.out
    rw [List.drop_zero] at h2
    rw [h2]
    simp [nameLen, HP.out]

end Go.Proofs.YtphaeegbmfpcgaaGreatDoor

/- Walks of digit, Letter, named; their conditions stand in the theorems. -/
namespace Go.Proofs.YtphaeegbmfpcgaaGreatDoor
open Go Go.RowKit

theorem digitV_le (c : UInt8) (hex : Bool) : -1 ≤ digitV c hex ∧ digitV c hex ≤ 15 := by
 have := c.toNat_lt
 unfold digitV
 split
 · rename_i h; simp [cDigit] at h; omega
 · split
   · rename_i h; simp at h; omega
   · split
     · rename_i h; simp at h; omega
     · omega
set_option maxHeartbeats 1000000 in
theorem digit_any (c : UInt8) (hex : Bool) (w : World) : Calls Tryz.prog 220 #[.int .u8 c.toNat, .int .i64 (baseOf hex)] w fun e w' => e = .returned (.int .i64 (digitV c hex)) ∧ w = w' := by
 have hlt := c.toNat_lt
 cases hd : cDigit c
 · have HD := Lib.hid hd
   have hd' : ¬ (48 ≤ c.toNat ∧ c.toNat ≤ 57) := by simpa [cDigit] using hd
   clear hd
   cases hex
   · simp only [baseOf, Bool.false_eq_true, if_false]
     go_enter Tryz.func220, Tryz.ntmps220
     go_wp2_with (go_at_call 93; refine (isDigit_any _ _).mono ?_; rintro e w' ⟨rfl, rfl⟩; rw [HD.out])
     go_ret
     exact ⟨ret_int (by simp [digitV, HD.out]), rfl⟩
   · simp only [baseOf, if_true]
     have hc : (c.toNat : Int) < 65 ∨ (65 ≤ (c.toNat : Int) ∧ (c.toNat : Int) ≤ 70) ∨ (70 < (c.toNat : Int) ∧ (c.toNat : Int) < 97) ∨ (97 ≤ (c.toNat : Int) ∧ (c.toNat : Int) ≤ 102) ∨ 102 < (c.toNat : Int) := by omega
     rcases hc with h | ⟨h, h'⟩ | ⟨h, h'⟩ | ⟨h, h'⟩ | h
     all_goals
      go_enter Tryz.func220, Tryz.ntmps220
      go_wp2_with (go_at_call 93; refine (isDigit_any _ _).mono ?_; rintro e w' ⟨rfl, rfl⟩; rw [HD.out])
      go_ret
      refine ⟨ret_int ?_, rfl⟩
      simp (disch := omega) [digitV, HD.out, if_pos, if_neg]
      try omega
 · have HD := Lib.hid hd
   have hd' : 48 ≤ (c.toNat : Int) ∧ (c.toNat : Int) ≤ 57 := by simp [cDigit] at hd; omega
   obtain ⟨hd1, hd2⟩ := hd'
   clear hd
   go_enter Tryz.func220, Tryz.ntmps220
   go_wp2_with (go_at_call 93; refine (isDigit_any _ _).mono ?_; rintro e w' ⟨rfl, rfl⟩; rw [HD.out])
   go_ret
   exact ⟨ret_int (by simp [digitV, HD.out]), rfl⟩
/-- What named returns. -/
def namedB (w : Bs) : Bs := match named w with
 | some c => [c]
 | none => []
theorem str_lit (s : S) (l : Bs) : (s.toList == l) = decide (s.data.toList = l) := by
 rw [ByteArray.toList_eq, Bool.eq_iff_iff]; simp
set_option maxHeartbeats 1000000 in
theorem named_any (s : S) (w : World) : Calls Tryz.prog 212 #[.string s] w fun e w' => e = .returned (.string (bs (namedB s.data.toList))) ∧ w = w' := by
 go_enter Tryz.func212, Tryz.ntmps212
 go_wp2
 all_goals (go_ret; refine ⟨?_, rfl⟩; simp_all [namedB, named, wLt, wGt, wAmp, wQuot, wApos, str_lit, bs])
theorem encode_ok {n : Int} (h : okLetter n = true) : Utf8.encode n = bs (letterB n) := by
 simp only [okLetter, decide_eq_true_eq] at h
 have hv : Utf8.valid n = true := by simp [Utf8.valid]; omega
 unfold Utf8.encode letterB letterN
 rw [if_pos hv]
 simp only []
 split
 · rfl
 · split
   · rfl
   · split <;> rfl
set_option maxRecDepth 100000 in
set_option maxHeartbeats 1000000 in
theorem letter_ok (n : Int) (w : World) (h : okLetter n = true) : Calls Tryz.prog 221 #[.int .i64 n] w fun e w' => e = .returned (.tuple #[.string (bs (letterB n)), .bool true]) ∧ Below w.heap.size w w' := by
 have hE := Lib.hid (encode_ok h)
 have hh := h
 simp only [okLetter, decide_eq_true_eq] at hh
 have hcv : (convert 282 9 (.slice (some ⟨w.heap.size, 0, none⟩) 1 1)).run Tryz.prog (w.alloc (.cells #[.int .i32 n] 21)) = .ok (.string (bs (letterB n))) (w.alloc (.cells #[.int .i32 n] 21)) := by
  have := run_convert_runes (P := Tryz.prog) (w.alloc (.cells #[.int .i32 n] 21)) 282 9 21 ⟨w.heap.size, 0, none⟩ 1 1 [n] (by simp) Tryz.underlying282 Tryz.underlying21 Tryz.underlying9 (fun j hj => by
   match j, hj with
   | 0, _ => simp [Addr.add, go_sem])
  rw [this]
  simp [runesBytes, hE.out]
 have hw : IntKind.i32.wrap n = n := IntWalk.i32_in n (by omega)
 have hb : n = 9 ∨ n = 10 ∨ n = 13 ∨ (32 ≤ n ∧ n < 55296) ∨ (57343 < n ∧ n ≤ 1114111) := by omega
 clear hh hE
 rcases hb with rfl | rfl | rfl | ⟨h1, h2⟩ | ⟨h1, h2⟩
 all_goals
  try have e1 : (n == 9) = false := beq_eq_false_iff_ne.2 (by omega)
  try have e2 : (n == 10) = false := beq_eq_false_iff_ne.2 (by omega)
  try have e3 : (n == 13) = false := beq_eq_false_iff_ne.2 (by omega)
  go_enter Tryz.func221, Tryz.ntmps221
  go_wp2
  all_goals first | (exfalso; omega) | (go_ret2; exact ⟨rfl, (Below.refl _ _).alloc (Nat.le_refl _) _⟩)
set_option maxRecDepth 100000 in
set_option maxHeartbeats 1000000 in
theorem letter_no (n : Int) (w : World) (h : okLetter n = false) : Calls Tryz.prog 221 #[.int .i64 n] w fun e w' => e = .returned (.tuple #[.string (bs []), .bool false]) ∧ Below w.heap.size w w' := by
 simp only [okLetter, decide_eq_false_iff_not] at h
 have e1 : (n == 9) = false := beq_eq_false_iff_ne.2 (by omega)
 have e2 : (n == 10) = false := beq_eq_false_iff_ne.2 (by omega)
 have e3 : (n == 13) = false := beq_eq_false_iff_ne.2 (by omega)
 have hb : n < 32 ∨ 1114111 < n ∨ (55296 ≤ n ∧ n ≤ 57343) := by omega
 clear h
 rcases hb with h1 | h1 | ⟨h1, h2⟩
 all_goals
  go_enter Tryz.func221, Tryz.ntmps221
  go_wp2
  all_goals first | (exfalso; omega) | (go_ret2; exact ⟨rfl, Below.refl _ _⟩)

end Go.Proofs.YtphaeegbmfpcgaaGreatDoor

/- Walks of number and its closure; their conditions stand in the theorems. -/

namespace Go.Proofs.YtphaeegbmfpcgaaGreatDoor
open Go Go.RowKit

set_option maxHeartbeats 1000000 in
theorem isDig_any (c : UInt8) (hex : Bool) (b : Nat) (w : World) (hc : w.cell? ⟨b, 0, none⟩ = some (.int .i64 (baseOf hex))) :
    Calls Tryz.prog 219 #[.int .u8 c.toNat, .pointer (some ⟨b, 0, none⟩)] w fun e w' => e = .returned (.bool (isDig hex c)) ∧ w = w' := by
 go_enter Tryz.func219, Tryz.ntmps219
 go_wp2_with (go_at_call 220; refine (digit_any c hex _).mono ?_; rintro e w' ⟨rfl, rfl⟩)
 go_ret
 exact ⟨rfl, rfl⟩
set_option maxHeartbeats 1000000 in
theorem spanDig_any (s : S) (w : World) (hex : Bool) (b : Nat) (hc : w.cell? ⟨b, 0, none⟩ = some (.int .i64 (baseOf hex))) (hs : s.size ≤ 9223372036854775807) :
    Calls Tryz.prog 198 #[.string s, .func (.func 219) #[] #[.pointer (some ⟨b, 0, none⟩)]] w fun e w' => e = .returned (.int .i64 (span (isDig hex) s.data.toList)) ∧ w = w' := by
 have hsp := span_le (isDig hex) s.data.toList
 rw [size_data] at hsp
 go_enter Tryz.func198, Tryz.ntmps198
 go_wp2
 go_loop [5] (fun i => ∃ k : Nat, k ≤ s.size ∧ i = .int .i64 k ∧ Hid (span (isDig hex) s.data.toList = k + span (isDig hex) (s.data.toList.drop k))) (fun i => s.size - (intOf i).toNat)
 case atStart => exact ⟨0, Nat.zero_le _, rfl, by show _ = _; simp⟩
 case round =>
  obtain ⟨k, hk, rfl, H⟩ := hrel
  by_cases hlt : k < s.size
  · have HD := Lib.hid (drop_byte s k hlt)
    cases hp : isDig hex s[k]
    all_goals
     have HP := Lib.hid hp
     clear hp
     go_wp2_with (go_at_call 219; refine (isDig_any _ hex b _ hc).mono ?_; rintro e w' ⟨rfl, rfl⟩; rw [HP.out])
    · go_ret
      exact ⟨ret_int (by rw [H.out, HD.out]; simp [span, HP.out]), rfl⟩
    · go_round
      case rel => exact ⟨k + 1, by omega, by go_num, by show _ = _; rw [H.out, HD.out]; simp only [span, HP.out, if_true]; omega⟩
      case measure => simp [intOf]; omega
  · go_wp2
    go_ret
    exact ⟨ret_int (by rw [H.out, List.drop_of_length_le (by rw [size_data]; omega)]; simp [span]), rfl⟩
def refTuple : RefR → Value
 | .ok t n => .tuple #[.string (bs t), .int .i64 n, .int .i64 0]
 | .bad e => .tuple #[.string (bs []), .int .i64 0, .int .i64 e]
theorem numV_snoc (hex : Bool) (l : Bs) (c : UInt8) : numV hex (l ++ [c]) = numV hex l * baseOf hex + digitV c hex := by
 unfold numV; rw [List.foldl_append]; rfl
theorem numV_bd (hex : Bool) (l : Bs) (h : ∀ c ∈ l, isDig hex c = true) : 0 ≤ numV hex l ∧ numV hex l < 16 ^ l.length := by
 induction l using snoc_ind with
 | h0 => simp [numV]
 | h1 l c ih =>
  obtain ⟨h1, h2⟩ := ih fun d hd => h d (by simp [hd])
  have h3 := h c (by simp)
  have h4 := digitV_le c hex
  simp only [isDig, decide_eq_true_eq] at h3
  rw [numV_snoc, List.length_append, List.length_singleton, Int.pow_succ]
  generalize (16 : Int) ^ l.length = q at *
  cases hex <;> simp only [baseOf, if_true, Bool.false_eq_true, if_false] <;> omega
theorem numV_small (hex : Bool) (l : Bs) (h : ∀ c ∈ l, isDig hex c = true) (hl : l.length ≤ 8) : 0 ≤ numV hex l ∧ numV hex l < 4294967296 := by
 obtain ⟨h1, h2⟩ := numV_bd hex l h
 have h3 : (16 : Int) ^ l.length ≤ 4294967296 := by
  generalize l.length = n at hl
  match n, hl with
  | 0, _ => decide
  | 1, _ => decide
  | 2, _ => decide
  | 3, _ => decide
  | 4, _ => decide
  | 5, _ => decide
  | 6, _ => decide
  | 7, _ => decide
  | 8, _ => decide
 omega
theorem belowN {B : Nat} {w w' : World} (h : Below B w w') (n : Nat) : Below B w (w'.drewN n) := ⟨h.os, h.tape, h.output, h.size, fun k hk => h.block k hk⟩

end Go.Proofs.YtphaeegbmfpcgaaGreatDoor

/- Plain law of references: the document's way to cut one and the program's are the same; no program in sight. -/

namespace Go.Proofs.YtphaeegbmfpcgaaGreatDoor
open Go Go.RowKit

/-- A reference takes a byte or more, and no more than there are. -/
theorem refSpec_size {s t : Bs} {n : Nat} (h : refSpec s = .ok t n) : 1 ≤ n ∧ n ≤ s.length := by
 have hn : ∀ hex a d, numRef hex a d = .ok t n → n ≤ a + d.length ∧ a + 1 ≤ n := by
  intro hex a d h
  unfold numRef at h
  have := span_le (isDig hex) d
  by_cases h1 : 8 < span (isDig hex) d
  · rw [if_pos h1] at h; cases h
  · rw [if_neg h1] at h
    by_cases h2 : span (isDig hex) d = d.length
    · rw [if_pos h2] at h; cases h
    · rw [if_neg h2] at h
      by_cases h3 : span (isDig hex) d = 0 ∨ d[span (isDig hex) d]? ≠ some 59
      · rw [if_pos h3] at h; cases h
      · rw [if_neg h3] at h
        split at h
        · cases h; omega
        · cases h
 cases s with
 | nil => cases h
 | cons c r =>
  simp only [refSpec] at h
  by_cases hc : c = 38
  · rw [if_neg (by simp [hc])] at h
    split at h
    · split at h
      · have := hn _ _ _ h; simp only [List.length_cons]; omega
      · have := hn _ _ _ h; simp only [List.length_cons]; omega
    · by_cases hl : span cLower r = r.length
      · rw [if_pos hl] at h
        split at h <;> cases h
      · rw [if_neg hl] at h
        have := span_le cLower r
        split at h
        · split at h
          · cases h; simp only [List.length_cons]; omega
          · cases h
        · cases h
  · rw [if_pos hc] at h; cases h

end Go.Proofs.YtphaeegbmfpcgaaGreatDoor

/- The library's string functions in the words of these texts; the walk of number; the conditions stand in the theorems. -/

namespace Go.Proofs.YtphaeegbmfpcgaaGreatDoor
open Go Go.RowKit

theorem hasPrefix_any (s p : S) (w : World) : Calls Tryz.prog 187 #[.string s, .string p] w fun e w' => e = .returned (.bool (p.data.toList.isPrefixOf s.data.toList)) ∧ w = w' :=
 (Tryz.strings_HasPrefix s p w).mono fun _ _ ⟨h1, h2⟩ => ⟨h1, h2.symm⟩
theorem index_any (s p : S) (m : Int) (w : World) (hs : s.size < 4294967281) (hm : w.cell? ⟨0, 0, none⟩ = some (.int .i64 m)) : Calls Tryz.prog 136 #[.string s, .string p] w fun e w' => e = .returned (.int .i64 (Lib.index s.data.toList p.data.toList)) ∧ w = w' :=
 (Tryz.strings_Index s p m w hs hm).mono fun _ _ ⟨h1, h2⟩ => ⟨h1, h2.symm⟩
theorem lastIndexByte_any (s : S) (w : World) (hs : s.size < 4611686018427387904) : Calls Tryz.prog 122 #[.string s, .int .u8 10] w fun e w' => e = .returned (.int .i64 ((s.size : Int) - (lineCol s.data.toList).2)) ∧ w = w' :=
 (Tryz.strings_LastIndexByte s 10 hs w).mono fun _ _ ⟨h1, h2⟩ => ⟨by rw [h1]; congr 2; have := lineCol_col s.data.toList; rw [data_bs, size_data] at this; exact this, h2.symm⟩
theorem count_any (s : S) (w : World) : Calls Tryz.prog 127 #[.string s, .string ⟨#[10]⟩] w fun e w' => e = .returned (.int .i64 ((lineCol s.data.toList).1 - 1 : Int)) ∧ w = w' :=
 (Tryz.strings_Count_one s 10 w).mono fun _ _ ⟨h1, h2⟩ => ⟨by rw [h1, lineCol_line]; unfold Lib.countByte; congr 2; omega, h2.symm⟩
theorem lastIndex_any (s : S) (w : World) (hs : s.size < 4611686018427387904) : Calls Tryz.prog 128 #[.string s, .string ⟨#[10]⟩] w fun e w' => e = .returned (.int .i64 ((s.size : Int) - (lineCol s.data.toList).2)) ∧ w = w' :=
 (Tryz.strings_LastIndex s ⟨#[10]⟩ hs w).mono fun _ _ ⟨h1, h2⟩ => ⟨by rw [h1]; congr 2; have := lastIndex_one s.data.toList; rw [size_data] at this; exact this, h2.symm⟩
theorem quietS {P : Program} {f : FuncId} {args : Array Value} {w : World} {n : Nat} {v : Value}
    (h : Calls P f args (w.drewN n) fun e w' => e = .returned v ∧ w.drewN n = w') : Calls P f args (w.drewN n) fun e w'' => e = .returned v ∧ ∃ m, w'' = w.drewN m :=
 Calls.quiet_of_same (h.mono fun _ _ ⟨he, hm⟩ => ⟨he, hm.symm⟩)
/-- A reference by a number, behind the & and #. -/
def numSpec : Bs → RefR
 | 120 :: r => numRef true 3 r
 | l => numRef false 2 l
set_option maxRecDepth 100000 in
set_option maxHeartbeats 4000000 in
theorem number_any (s : S) (w : World) (hs : s.size ≤ 1000000) :
    Calls Tryz.prog 210 #[.string s, .int .i64 2] w fun e w' => e = .returned (refTuple (numSpec s.data.toList)) ∧ Below w.heap.size w w' := by
 obtain ⟨u, l, hex, a, hpos, hu, hul, hspec, hx, ha, hsl⟩ : ∃ (u : S) (l : Bs) (hex : Bool) (a : Nat), (hex = true → 1 ≤ s.size) ∧ u.data.toList = l ∧ u.size ≤ 1000000 ∧ numSpec s.data.toList = numRef hex a l ∧ ([120] : Bs).isPrefixOf s.data.toList = hex ∧ a = (if hex then 3 else 2) ∧ u = (if hex then s.extract 1 s.size else s) := by
  by_cases h : ([120] : Bs).isPrefixOf s.data.toList = true
  · obtain ⟨r, hr⟩ := List.isPrefixOf_iff_prefix.1 h
    refine ⟨s.extract 1 s.size, r, true, 3, fun _ => by rw [← size_data, ← hr]; simp, ?_, ?_, by rw [← hr]; rfl, h, rfl, rfl⟩
    · rw [Lib.extract_to_end, ← hr]; rfl
    · rw [← size_data, Lib.extract_to_end, List.length_drop, size_data]; omega
  · have h' : ([120] : Bs).isPrefixOf s.data.toList = false := Bool.eq_false_iff.2 h
    refine ⟨s, s.data.toList, false, 2, by simp, rfl, hs, ?_, h', rfl, rfl⟩
    unfold numSpec
    split
    · rename_i r hr; rw [hr] at h'; simp at h'
    · rfl
 have HS : Hid (numSpec s.data.toList = numRef hex a l) := hspec
 have HX : Hid ((⟨#[120]⟩ : ByteArray).data.toList.isPrefixOf s.data.toList = hex) := hx
 have HU := Lib.hid hu
 clear hspec hx hu
 have hN := span_le (isDig hex) l
 have hll : l.length = u.size := by rw [← HU.out, size_data]
 have hN' : span (isDig hex) l ≤ u.size := by omega
 have HSP : ∀ b w, w.cell? ⟨b, 0, none⟩ = some (.int .i64 (baseOf hex)) → Calls Tryz.prog 198 #[.string u, .func (.func 219) #[] #[.pointer (some ⟨b, 0, none⟩)]] w fun e w' => e = .returned (.int .i64 (span (isDig hex) l)) ∧ w = w' := by
  intro b w hc
  have := spanDig_any u w hex b hc (by omega)
  rw [HU.out] at this; exact this
 have HDG : ∀ i, i < span (isDig hex) l → ∃ c, l[i]? = some c ∧ isDig hex c = true := fun i hi => span_lt hi
 have HEND : Hid (∀ c, l[span (isDig hex) l]? = some c → isDig hex c = false) := fun c hc => span_end hc
 generalize hNN : span (isDig hex) l = N at *
 have HNN := Lib.hid hNN
 have HD2 := Lib.hid HDG
 clear hNN hN HDG HEND
 cases hex
 · simp only [Bool.false_eq_true, if_false] at ha hsl
   subst ha
   subst hsl
   try have hpos1 : 1 ≤ s.size := hpos rfl
   clear hpos
   simp only [baseOf, Bool.false_eq_true, if_false] at HSP
   have HSP' := Lib.hid HSP
   clear HSP
   go_enter Tryz.func210, Tryz.ntmps210
   go_wp2_with (go_at_call 187; refine (hasPrefix_any _ _ _).mono ?_; rintro e w' ⟨rfl, rfl⟩; rw [HX.out])
   refine (HSP'.out _ _ (by simp [go_sem])).mono ?_
   rintro e w1 ⟨rfl, rfl⟩
   clear HSP' HX
   try generalize s.extract 1 s.size = u at *
   by_cases h8 : 8 < N
   · go_wp2
     go_ret3
     exact ⟨by rw [HS.out]; unfold numRef; rw [HNN.out, if_pos h8]; rfl, (Below.refl _ _).alloc (Nat.le_refl _) _⟩
   · by_cases hend : N = u.size
     · have e1 : ((N : Int) == (u.size : Int)) = true := beq_iff_eq.2 (by omega)
       have HE := Lib.hid hend
       clear hend
       go_wp2
       go_ret3
       exact ⟨by rw [HS.out]; unfold numRef; rw [HNN.out, if_neg h8, if_pos (by rw [hll, HE.out])]; rfl, (Below.refl _ _).alloc (Nat.le_refl _) _⟩
     · have hlt : N < u.size := by omega
       have e1 : ((N : Int) == (u.size : Int)) = false := beq_eq_false_iff_ne.2 (by omega)
       have hne : ¬ N = l.length := by rw [hll]; exact hend
       clear hend
       have hb : l[N]? = some u[N] := by
        have := congrArg (·[0]?) (drop_byte u N hlt)
        rw [HU.out] at this
        simpa using this
       have HB := Lib.hid hb
       clear hb
       by_cases h0 : N = 0
       · have e0 : ((N : Int) == 0) = true := beq_iff_eq.2 (by omega)
         have HE := Lib.hid h0
         clear h0
         go_wp2
         go_ret3
         exact ⟨by rw [HS.out]; unfold numRef; rw [HNN.out, if_neg h8, if_neg hne, if_pos (.inl HE.out)]; rfl, (Below.refl _ _).alloc (Nat.le_refl _) _⟩
       · have e0 : ((N : Int) == 0) = false := beq_eq_false_iff_ne.2 (by omega)
         by_cases h59 : u[N] = 59
         rotate_left
         · have e2 : (((u[N].toNat : Nat) : Int) != 59) = true := by
            rw [bne_iff_ne]; intro e; exact h59 (UInt8.toNat_inj.1 (by simpa using (by omega : u[N].toNat = 59)))
           have HE : Hid (l[N]? ≠ some 59) := by rw [HB.out]; show ¬ _; simpa using h59
           clear h59 HB
           go_wp2
           go_ret3
           exact ⟨by rw [HS.out]; unfold numRef; rw [HNN.out, if_neg h8, if_neg hne, if_pos (.inr HE.out)]; rfl, (Below.refl _ _).alloc (Nat.le_refl _) _⟩
         · have e2 : (((u[N].toNat : Nat) : Int) != 59) = false := by rw [h59]; decide
           have HE : Hid (l[N]? = some 59) := by rw [HB.out, h59]; rfl
           clear h59 HB
           go_wp2
           go_loopw [9, 40] (fun q i wr => ∃ j : Nat, j ≤ N ∧ i = .int .i64 j ∧ q = .int .i64 (numV false (l.take j)) ∧ Below w.heap.size w wr ∧ wr.cell? ⟨w.heap.size, 0, none⟩ = some (.int .i64 10)) (fun _ i _ => N - (intOf i).toNat)
           case atStart => exact ⟨0, Nat.zero_le _, rfl, by simp [numV], (Below.refl _ _).alloc (Nat.le_refl _) _, by simp [go_sem]⟩
           case round =>
            obtain ⟨j, hj, rfl, rfl, hb, hcell⟩ := hrel
            have hdl : ∀ c ∈ l.take j, isDig false c = true := fun c hc => by
             obtain ⟨i, hi, rfl⟩ := List.mem_iff_getElem.1 hc
             rw [List.length_take] at hi
             obtain ⟨c, h1, h2⟩ := HD2.out i (by omega)
             rw [List.getElem_take]
             obtain ⟨h3, h4⟩ := List.getElem?_eq_some_iff.1 h1
             rw [h4]; exact h2
            obtain ⟨b1, b2⟩ := numV_small false (l.take j) hdl (by rw [List.length_take]; omega)
            by_cases hjN : j < N
            · have hju : j < u.size := by omega
              have hcu : l[j]? = some u[j] := by
               have := congrArg (·[0]?) (drop_byte u j hju)
               rw [HU.out] at this
               simpa using this
              have hd0 : isDig false u[j] = true := by
               obtain ⟨c, h1, h2⟩ := HD2.out j hjN
               rw [hcu] at h1; cases h1; exact h2
              have v1 : 0 ≤ digitV u[j] false := by simpa [isDig] using hd0
              have v2 := (digitV_le u[j] false).2
              have HSN : Hid (numV false (l.take (j + 1)) = numV false (l.take j) * 10 + digitV u[j] false) := by
               show _ = _
               have : l.take (j + 1) = l.take j ++ [u[j]] := by rw [List.take_add_one, hcu]; rfl
               rw [this, numV_snoc]; rfl
              have HDI := Lib.hid (fun w => digit_any u[j] false w)
              simp only [baseOf, Bool.false_eq_true, if_false] at HDI
              clear hdl hcu hd0
              generalize numV false (l.take j) = K at *
              generalize digitV u[j] false = V at *
              have w1 := IntWalk.i64_in (K * 10) (by omega)
              have w2 := IntWalk.i64_in (K * 10 + V) (by omega)
              go_wp2
              go_quiet ((go_at_call 220; exact quietS (HDI.out _)))
              clear w1 w2
              go_wp2
              go_roundw
              case rel => exact ⟨j + 1, by omega, by go_num, by rw [HSN.out], belowN hb _, hcell⟩
              case measure => simp [intOf]; omega
            · obtain rfl : j = N := by omega
              have hok0 : span (isDig false) l = j := HNN.out
              cases hok : okLetter (numV false (l.take j))
              · have HO := Lib.hid hok
                have HLT := Lib.hid (fun w => letter_no _ w hok)
                clear hok hdl hok0
                generalize hK : numV false (l.take j) = K at *
                have HK := Lib.hid hK
                clear hK
                go_wp2_with (go_at_call 221; refine (HLT.out _).mono ?_; rintro e w2 ⟨rfl, hb2⟩)
                go_ret3
                refine ⟨?_, hb.trans (hb2.mono hb.size)⟩
                rw [HS.out]; unfold numRef
                rw [HNN.out, if_neg h8, if_neg hne, if_neg (by rw [HE.out]; simp [h0]), HK.out, HO.out]; rfl
              · have HO := Lib.hid hok
                have HLT := Lib.hid (fun w => letter_ok _ w hok)
                clear hok hdl hok0
                generalize hK : numV false (l.take j) = K at *
                have HK := Lib.hid hK
                clear hK
                go_wp2_with (go_at_call 221; refine (HLT.out _).mono ?_; rintro e w2 ⟨rfl, hb2⟩)
                go_ret3
                refine ⟨?_, hb.trans (hb2.mono hb.size)⟩
                rw [HS.out]; unfold numRef
                rw [HNN.out, if_neg h8, if_neg hne, if_neg (by rw [HE.out]; simp [h0]), HK.out, HO.out]
                simp only [if_true, refTuple]
                rw [show ((2 + j + 1 : Nat) : Int) = 2 + (j : Int) + 1 by omega]; rfl
 · simp only [if_true] at ha hsl
   subst ha
   subst hsl
   try have hpos1 : 1 ≤ s.size := hpos rfl
   clear hpos
   simp only [baseOf, if_true] at HSP
   have HSP' := Lib.hid HSP
   clear HSP
   go_enter Tryz.func210, Tryz.ntmps210
   go_wp2_with (go_at_call 187; refine (hasPrefix_any _ _ _).mono ?_; rintro e w' ⟨rfl, rfl⟩; rw [HX.out])
   refine (HSP'.out _ _ (by simp [go_sem])).mono ?_
   rintro e w1 ⟨rfl, rfl⟩
   clear HSP' HX
   try generalize s.extract 1 s.size = u at *
   by_cases h8 : 8 < N
   · go_wp2
     go_ret3
     exact ⟨by rw [HS.out]; unfold numRef; rw [HNN.out, if_pos h8]; rfl, (Below.refl _ _).alloc (Nat.le_refl _) _⟩
   · by_cases hend : N = u.size
     · have e1 : ((N : Int) == (u.size : Int)) = true := beq_iff_eq.2 (by omega)
       have HE := Lib.hid hend
       clear hend
       go_wp2
       go_ret3
       exact ⟨by rw [HS.out]; unfold numRef; rw [HNN.out, if_neg h8, if_pos (by rw [hll, HE.out])]; rfl, (Below.refl _ _).alloc (Nat.le_refl _) _⟩
     · have hlt : N < u.size := by omega
       have e1 : ((N : Int) == (u.size : Int)) = false := beq_eq_false_iff_ne.2 (by omega)
       have hne : ¬ N = l.length := by rw [hll]; exact hend
       clear hend
       have hb : l[N]? = some u[N] := by
        have := congrArg (·[0]?) (drop_byte u N hlt)
        rw [HU.out] at this
        simpa using this
       have HB := Lib.hid hb
       clear hb
       by_cases h0 : N = 0
       · have e0 : ((N : Int) == 0) = true := beq_iff_eq.2 (by omega)
         have HE := Lib.hid h0
         clear h0
         go_wp2
         go_ret3
         exact ⟨by rw [HS.out]; unfold numRef; rw [HNN.out, if_neg h8, if_neg hne, if_pos (.inl HE.out)]; rfl, (Below.refl _ _).alloc (Nat.le_refl _) _⟩
       · have e0 : ((N : Int) == 0) = false := beq_eq_false_iff_ne.2 (by omega)
         by_cases h59 : u[N] = 59
         rotate_left
         · have e2 : (((u[N].toNat : Nat) : Int) != 59) = true := by
            rw [bne_iff_ne]; intro e; exact h59 (UInt8.toNat_inj.1 (by simpa using (by omega : u[N].toNat = 59)))
           have HE : Hid (l[N]? ≠ some 59) := by rw [HB.out]; show ¬ _; simpa using h59
           clear h59 HB
           go_wp2
           go_ret3
           exact ⟨by rw [HS.out]; unfold numRef; rw [HNN.out, if_neg h8, if_neg hne, if_pos (.inr HE.out)]; rfl, (Below.refl _ _).alloc (Nat.le_refl _) _⟩
         · have e2 : (((u[N].toNat : Nat) : Int) != 59) = false := by rw [h59]; decide
           have HE : Hid (l[N]? = some 59) := by rw [HB.out, h59]; rfl
           clear h59 HB
           go_wp2
           go_loopw [9, 40] (fun q i wr => ∃ j : Nat, j ≤ N ∧ i = .int .i64 j ∧ q = .int .i64 (numV true (l.take j)) ∧ Below w.heap.size w wr ∧ wr.cell? ⟨w.heap.size, 0, none⟩ = some (.int .i64 16)) (fun _ i _ => N - (intOf i).toNat)
           case atStart => exact ⟨0, Nat.zero_le _, rfl, by simp [numV], (Below.refl _ _).alloc (Nat.le_refl _) _, by simp [go_sem]⟩
           case round =>
            obtain ⟨j, hj, rfl, rfl, hb, hcell⟩ := hrel
            have hdl : ∀ c ∈ l.take j, isDig true c = true := fun c hc => by
             obtain ⟨i, hi, rfl⟩ := List.mem_iff_getElem.1 hc
             rw [List.length_take] at hi
             obtain ⟨c, h1, h2⟩ := HD2.out i (by omega)
             rw [List.getElem_take]
             obtain ⟨h3, h4⟩ := List.getElem?_eq_some_iff.1 h1
             rw [h4]; exact h2
            obtain ⟨b1, b2⟩ := numV_small true (l.take j) hdl (by rw [List.length_take]; omega)
            by_cases hjN : j < N
            · have hju : j < u.size := by omega
              have hcu : l[j]? = some u[j] := by
               have := congrArg (·[0]?) (drop_byte u j hju)
               rw [HU.out] at this
               simpa using this
              have hd0 : isDig true u[j] = true := by
               obtain ⟨c, h1, h2⟩ := HD2.out j hjN
               rw [hcu] at h1; cases h1; exact h2
              have v1 : 0 ≤ digitV u[j] true := by simpa [isDig] using hd0
              have v2 := (digitV_le u[j] true).2
              have HSN : Hid (numV true (l.take (j + 1)) = numV true (l.take j) * 16 + digitV u[j] true) := by
               show _ = _
               have : l.take (j + 1) = l.take j ++ [u[j]] := by rw [List.take_add_one, hcu]; rfl
               rw [this, numV_snoc]; rfl
              have HDI := Lib.hid (fun w => digit_any u[j] true w)
              simp only [baseOf, if_true] at HDI
              clear hdl hcu hd0
              generalize numV true (l.take j) = K at *
              generalize digitV u[j] true = V at *
              have w1 := IntWalk.i64_in (K * 16) (by omega)
              have w2 := IntWalk.i64_in (K * 16 + V) (by omega)
              go_wp2
              go_quiet ((go_at_call 220; exact quietS (HDI.out _)))
              clear w1 w2
              go_wp2
              go_roundw
              case rel => exact ⟨j + 1, by omega, by go_num, by rw [HSN.out], belowN hb _, hcell⟩
              case measure => simp [intOf]; omega
            · obtain rfl : j = N := by omega
              have hok0 : span (isDig true) l = j := HNN.out
              cases hok : okLetter (numV true (l.take j))
              · have HO := Lib.hid hok
                have HLT := Lib.hid (fun w => letter_no _ w hok)
                clear hok hdl hok0
                generalize hK : numV true (l.take j) = K at *
                have HK := Lib.hid hK
                clear hK
                go_wp2_with (go_at_call 221; refine (HLT.out _).mono ?_; rintro e w2 ⟨rfl, hb2⟩)
                go_ret3
                refine ⟨?_, hb.trans (hb2.mono hb.size)⟩
                rw [HS.out]; unfold numRef
                rw [HNN.out, if_neg h8, if_neg hne, if_neg (by rw [HE.out]; simp [h0]), HK.out, HO.out]; rfl
              · have HO := Lib.hid hok
                have HLT := Lib.hid (fun w => letter_ok _ w hok)
                clear hok hdl hok0
                generalize hK : numV true (l.take j) = K at *
                have HK := Lib.hid hK
                clear hK
                go_wp2_with (go_at_call 221; refine (HLT.out _).mono ?_; rintro e w2 ⟨rfl, hb2⟩)
                go_ret3
                refine ⟨?_, hb.trans (hb2.mono hb.size)⟩
                rw [HS.out]; unfold numRef
                rw [HNN.out, if_neg h8, if_neg hne, if_neg (by rw [HE.out]; simp [h0]), HK.out, HO.out]
                simp only [if_true, refTuple]
                rw [show ((3 + j + 1 : Nat) : Int) = 3 + (j : Int) + 1 by omega]; rfl

end Go.Proofs.YtphaeegbmfpcgaaGreatDoor

/- The walk of Ref; its conditions stand in the theorems. -/

namespace Go.Proofs.YtphaeegbmfpcgaaGreatDoor
open Go Go.RowKit

theorem named_none (s : S) (w : World) (h : named s.data.toList = none) : Calls Tryz.prog 212 #[.string s] w fun e w' => e = .returned (.string ⟨#[]⟩) ∧ w = w' := by
 refine (named_any s w).mono fun e w' ⟨h1, h2⟩ => ⟨?_, h2⟩
 rw [h1]; unfold namedB; rw [h]; rfl
theorem named_some (s : S) (c : UInt8) (w : World) (h : named s.data.toList = some c) : Calls Tryz.prog 212 #[.string s] w fun e w' => e = .returned (.string ⟨#[c]⟩) ∧ w = w' := by
 refine (named_any s w).mono fun e w' ⟨h1, h2⟩ => ⟨?_, h2⟩
 rw [h1]; unfold namedB; rw [h]; rfl
def refTexts : List S := [⟨#[108, 116]⟩, ⟨#[103, 116]⟩, ⟨#[97, 109, 112]⟩, ⟨#[113, 117, 111, 116]⟩, ⟨#[97, 112, 111, 115]⟩]
/-- Is a word the beginning of one that is known? -/
def refAny (r : Bs) : List S → Bool
 | [] => false
 | t :: l => r.isPrefixOf t.data.toList || refAny r l
theorem refAny_eq (r : Bs) : refAny r refTexts = (r.isPrefixOf wLt || r.isPrefixOf wGt || r.isPrefixOf wAmp || r.isPrefixOf wQuot || r.isPrefixOf wApos) := by
 simp only [refAny, refTexts, Bool.or_false, Bool.or_assoc]; rfl
theorem ref_num (r : Bs) : refSpec (38 :: 35 :: r) = numSpec r := by
 simp only [refSpec]
 rw [if_neg (by simp)]
 cases r with
 | nil => rfl
 | cons x r =>
  by_cases hx : x = 120
  · subst hx; rfl
  · unfold numSpec
    simp [hx]
theorem ref_word (r : Bs) (h : r.head? ≠ some 35) : refSpec (38 :: r) = (if span cLower r = r.length then
        if refAny r refTexts then .bad 13 else .bad 12
      else match named (r.take (span cLower r)) with
       | some t => if r[span cLower r]? = some 59 then .ok [t] (span cLower r + 2) else .bad 12
       | none => .bad 12) := by
 rw [refAny_eq]
 simp only [refSpec]
 rw [if_neg (by simp)]
 split
 · simp at h
 · rfl
set_option maxRecDepth 100000 in
set_option maxHeartbeats 4000000 in
theorem ref_any (s : S) (w : World) (hs : s.size ≤ 1000000) :
    Calls Tryz.prog 194 #[.string s] w fun e w' => e = .returned (refTuple (refSpec s.data.toList)) ∧ Below w.heap.size w w' := by
 have hE0 := empty_data s
 by_cases h0 : s.size = 0
 · have hE : s.toList.isEmpty = true := by rw [hE0]; simpa using h0
   clear hE0
   have hd : s.data.toList = [] := List.eq_nil_of_length_eq_zero (by rw [size_data, h0])
   rw [hd]
   clear hd h0
   go_enter Tryz.func194, Tryz.ntmps194
   go_wp2
   go_ret3
   exact ⟨rfl, Below.refl _ _⟩
 · have hE : s.toList.isEmpty = false := by rw [hE0]; simpa using h0
   clear hE0
   have h1 : 0 < s.size := by omega
   have HD := Lib.hid (drop_byte s 0 h1)
   clear h0
   by_cases h38 : s[0] = 38
   rotate_left
   · have e2 : (((s[0].toNat : Nat) : Int) != 38) = true := by
      rw [bne_iff_ne]; intro e; exact h38 (UInt8.toNat_inj.1 (by simpa using (by omega : s[0].toNat = 38)))
     have HS : Hid (refSpec s.data.toList = .bad 12) := by
      have h2 := HD.out
      rw [List.drop_zero] at h2
      rw [h2]; show _ = _; simp only [refSpec]; rw [if_pos h38]
     clear h38
     go_enter Tryz.func194, Tryz.ntmps194
     go_wp2
     go_ret3
     exact ⟨by rw [HS.out]; rfl, Below.refl _ _⟩
   · have e2 : (((s[0].toNat : Nat) : Int) != 38) = false := by rw [h38]; decide
     obtain ⟨r, hr⟩ : ∃ r, s.data.toList = 38 :: r := ⟨s.data.toList.drop 1, by have := HD.out; rw [List.drop_zero, h38] at this; exact this⟩
     clear h38 HD
     have hrl : r.length + 1 = s.size := by rw [← size_data, hr]; simp
     by_cases hn : r.head? = some 35
     · obtain ⟨q, rfl⟩ : ∃ q, r = 35 :: q := by
        cases r with
        | nil => cases hn
        | cons x q => simp at hn; exact ⟨q, by rw [hn]⟩
       have HX : Hid ((⟨#[38, 35]⟩ : ByteArray).data.toList.isPrefixOf s.data.toList = true) := by rw [hr]; rfl
       have HU : Hid ((s.extract 2 s.size).data.toList = q) := by rw [Lib.extract_to_end, hr]; rfl
       have h2 : 2 ≤ s.size := by simp at hrl; omega
       have hus : (s.extract 2 s.size).size ≤ 1000000 := by rw [← size_data, HU.out]; simp at hrl; omega
       have HS : Hid (refSpec s.data.toList = numSpec q) := by rw [hr]; exact ref_num q
       clear hr hn
       go_enter Tryz.func194, Tryz.ntmps194
       go_wp2_with (go_at_call 187; refine (hasPrefix_any _ _ _).mono ?_; rintro e w' ⟨rfl, rfl⟩; rw [HX.out])
       generalize s.extract 2 s.size = u at *
       refine (number_any u _ hus).mono ?_
       rintro e w' ⟨rfl, hb⟩
       rw [HU.out]
       cases hq : numSpec q
       all_goals
        have HQ := Lib.hid hq
        clear hq
        simp only [refTuple]
        go_wp2
        go_ret3
        exact ⟨by rw [HS.out, HQ.out]; rfl, hb⟩
     · have HX : Hid ((⟨#[38, 35]⟩ : ByteArray).data.toList.isPrefixOf s.data.toList = false) := by
        rw [hr]; show ([38, 35] : Bs).isPrefixOf (38 :: r) = false
        cases r with
        | nil => rfl
        | cons x q => simp only [List.head?_cons, Option.some.injEq] at hn; simp [List.isPrefixOf, Ne.symm hn]
       have HU : Hid ((s.extract 1 s.size).data.toList = r) := by rw [Lib.extract_to_end, hr]; rfl
       have hus : (s.extract 1 s.size).size ≤ 1000000 := by rw [← size_data, HU.out]; omega
       have hN := span_le cLower r
       have hrw := ref_word r hn
       rw [← hr] at hrw
       have HS := Lib.hid hrw
       clear hrw
       have HV : Hid ((s.extract 1 (1 + span cLower r)).data.toList = r.take (span cLower r)) := by
        rw [Lib.extract_data, hr]; show _ = _; simp
       have hvs : (s.extract 1 (1 + span cLower r)).size ≤ 1000000 := by rw [← size_data, HV.out, List.length_take]; omega
       have HSP : Hid (∀ w, Calls Tryz.prog 198 #[.string (s.extract 1 s.size), .func (.func 211) #[] #[]] w fun e w' => e = .returned (.int .i64 (span cLower r)) ∧ w = w') := fun w => by
        have := spanLower_any (s.extract 1 s.size) w (by omega)
        rw [HU.out] at this; exact this
       have hget : ∀ h : 1 + span cLower r < s.size, r[span cLower r]? = some (s[1 + span cLower r]'h) := fun h => by
        have := congrArg (·[0]?) (drop_byte s (1 + span cLower r) h)
        rw [hr] at this
        simpa [Nat.add_comm 1] using this
       clear hn hr HU hus
       generalize hNN : span cLower r = N at *
       clear hNN
       have n1 : (1 : Int) ≤ 1 + (N : Int) := by omega
       by_cases hend : N = r.length
       · have e1 : (1 + (N : Int) == (s.size : Int)) = true := beq_iff_eq.2 (by omega)
         have hn1 : 1 + N ≤ s.size := by omega
         have HE := Lib.hid hend
         clear hget hend
         have HTK : Hid (r.take N = r) := by rw [HE.out]; exact List.take_length
         have HA : Hid (∀ j (h : j < 5), ∀ w, Calls Tryz.prog 187 #[.string (refTexts[j]'h), .string (s.extract 1 (1 + N))] w fun e w' => e = .returned (.bool (r.isPrefixOf (refTexts[j]'h).data.toList)) ∧ w = w') := fun j h w => by
          have := hasPrefix_any (refTexts[j]'h) (s.extract 1 (1 + N)) w
          rw [HV.out, HTK.out] at this; exact this
         have hcells : ∀ j (h : j < 5), (w.alloc (.cells #[.string ⟨#[108, 116]⟩, .string ⟨#[103, 116]⟩, .string ⟨#[97, 109, 112]⟩, .string ⟨#[113, 117, 111, 116]⟩, .string ⟨#[97, 112, 111, 115]⟩] 9)).cell? ⟨w.heap.size, j, none⟩ = some (.string (refTexts[j]'h)) := fun j h => by
          match j, h with
          | 0, _ => simp [go_sem, refTexts]
          | 1, _ => simp [go_sem, refTexts]
          | 2, _ => simp [go_sem, refTexts]
          | 3, _ => simp [go_sem, refTexts]
          | 4, _ => simp [go_sem, refTexts]
         have HC := Lib.hid hcells
         clear hcells
         go_enter Tryz.func194, Tryz.ntmps194
         go_wp2_with (first | (go_at_call 187; refine (hasPrefix_any _ _ _).mono ?_; rintro e w' ⟨rfl, rfl⟩; rw [HX.out]) | (go_at_call 198; refine (HSP.out _).mono ?_; rintro e w' ⟨rfl, rfl⟩))
         generalize s.extract 1 (1 + N) = v at *
         go_loop [8, 40] (fun _ i => ∃ j : Nat, j ≤ 5 ∧ i = .int .i64 j ∧ Hid (refAny r refTexts = refAny r (refTexts.drop j))) (fun _ i => 5 - (intOf i).toNat)
         case atStart => exact ⟨0, by omega, rfl, rfl⟩
         case round =>
          obtain ⟨j, hj, rfl, H⟩ := hrel
          by_cases hj5 : j < 5
          · have hcell := HC.out j hj5
            have HD : Hid (refAny r (refTexts.drop j) = (r.isPrefixOf (refTexts[j]'hj5).data.toList || refAny r (refTexts.drop (j + 1)))) := by
             rw [List.drop_eq_getElem_cons (show j < refTexts.length from hj5)]; rfl
            have HAj := Lib.hid (HA.out j hj5)
            generalize refTexts[j]'hj5 = t at *
            cases hp : r.isPrefixOf t.data.toList
            all_goals
             have HP := Lib.hid hp
             clear hp
             go_wp2_with (go_at_call 187; refine (HAj.out _).mono ?_; rintro e w' ⟨rfl, rfl⟩; rw [HP.out])
            · go_round
              case rel => exact ⟨j + 1, by omega, by go_num, by show _ = _; rw [H.out, HD.out, HP.out]; rfl⟩
              case measure => simp [intOf]; omega
            · go_ret3
              exact ⟨by rw [HS.out, if_pos HE.out, H.out, HD.out, HP.out]; rfl, (Below.refl _ _).alloc (Nat.le_refl _) _⟩
          · obtain rfl : j = 5 := by omega
            go_wp2
            go_ret3
            exact ⟨by rw [HS.out, if_pos HE.out, H.out]; rfl, (Below.refl _ _).alloc (Nat.le_refl _) _⟩
       · have e1 : (1 + (N : Int) == (s.size : Int)) = false := beq_eq_false_iff_ne.2 (by omega)
         have hlt : 1 + N < s.size := by omega
         have hc := hget hlt
         have HC := Lib.hid hc
         clear hget hc
         have HE := Lib.hid hend
         clear hend
         cases hm : named (r.take N) with
         | none =>
          have HM := Lib.hid hm
          have HNM : Hid (∀ w, Calls Tryz.prog 212 #[.string (s.extract 1 (1 + N))] w fun e w' => e = .returned (.string ⟨#[]⟩) ∧ w = w') := fun w => named_none _ w (by rw [HV.out]; exact hm)
          clear hm
          go_enter Tryz.func194, Tryz.ntmps194
          go_wp2_with (first | (go_at_call 187; refine (hasPrefix_any _ _ _).mono ?_; rintro e w' ⟨rfl, rfl⟩; rw [HX.out]) | (go_at_call 198; refine (HSP.out _).mono ?_; rintro e w' ⟨rfl, rfl⟩) | (go_at_call 212; refine (HNM.out _).mono ?_; rintro e w' ⟨rfl, rfl⟩))
          go_ret3
          exact ⟨by rw [HS.out, if_neg HE.out, HM.out]; rfl, Below.refl _ _⟩
         | some c =>
          have HM := Lib.hid hm
          have HNM : Hid (∀ w, Calls Tryz.prog 212 #[.string (s.extract 1 (1 + N))] w fun e w' => e = .returned (.string ⟨#[c]⟩) ∧ w = w') := fun w => named_some _ c w (by rw [HV.out]; exact hm)
          clear hm
          by_cases h59 : s[1 + N] = 59
          · have e3 : (((s[1 + N].toNat : Nat) : Int) == 59) = true := by rw [h59]; decide
            have HT := Lib.hid h59
            clear h59
            go_enter Tryz.func194, Tryz.ntmps194
            go_wp2_with (first | (go_at_call 187; refine (hasPrefix_any _ _ _).mono ?_; rintro e w' ⟨rfl, rfl⟩; rw [HX.out]) | (go_at_call 198; refine (HSP.out _).mono ?_; rintro e w' ⟨rfl, rfl⟩) | (go_at_call 212; refine (HNM.out _).mono ?_; rintro e w' ⟨rfl, rfl⟩))
            go_ret3
            exact ⟨by rw [HS.out, if_neg HE.out, HM.out]; simp only []; rw [if_pos (by rw [HC.out, HT.out])]; simp only [refTuple]; rw [show ((N + 2 : Nat) : Int) = (N : Int) + 2 by omega]; rfl, Below.refl _ _⟩
          · have e3 : (((s[1 + N].toNat : Nat) : Int) == 59) = false := by
             rw [beq_eq_false_iff_ne]; intro e; exact h59 (UInt8.toNat_inj.1 (by simpa using (by omega : s[1 + N].toNat = 59)))
            have HT := Lib.hid h59
            clear h59
            go_enter Tryz.func194, Tryz.ntmps194
            go_wp2_with (first | (go_at_call 187; refine (hasPrefix_any _ _ _).mono ?_; rintro e w' ⟨rfl, rfl⟩; rw [HX.out]) | (go_at_call 198; refine (HSP.out _).mono ?_; rintro e w' ⟨rfl, rfl⟩) | (go_at_call 212; refine (HNM.out _).mono ?_; rintro e w' ⟨rfl, rfl⟩))
            go_ret3
            exact ⟨by rw [HS.out, if_neg HE.out, HM.out]; simp only []; rw [if_neg (by rw [HC.out]; simpa using HT.out)]; rfl, Below.refl _ _⟩

end Go.Proofs.YtphaeegbmfpcgaaGreatDoor

/- The program's reader in memory; walks of its small methods; the conditions stand in the theorems. -/

namespace Go.Proofs.YtphaeegbmfpcgaaGreatDoor
open Go Go.RowKit

theorem wp_world {P : Program} {c : Code} {Q : Exit → Act → World → Prop} {a : Act} {w : World} (h : ∀ W, W = w → c.wp P Q a W) : c.wp P Q a w := h w rfl
theorem Calls.world {P : Program} {f : FuncId} {args : Array Value} {w : World} {R : Ending → World → Prop} (h : ∀ W, W = w → Calls P f args W R) : Calls P f args w R := h w rfl
/-- How many bytes of a text are ahead of what is left. -/
def pos (s : S) (l : Bs) : Nat := s.size - l.length
theorem pos_add {s : S} {l : Bs} (h : l <:+ s.data.toList) : pos s l + l.length = s.size := by
 have := h.length_le
 rw [size_data] at this
 unfold pos; omega
theorem pos_drop {s : S} {l : Bs} (h : l <:+ s.data.toList) : s.data.toList.drop (pos s l) = l := by
 have := List.suffix_iff_eq_drop.1 h
 rw [size_data] at this
 exact this.symm
theorem pos_extract {s : S} {l : Bs} (h : l <:+ s.data.toList) : s.extract (pos s l) s.size = bs l := by
 rw [Lib.extract_eq, pos_drop h]
 unfold bs
 rw [List.take_of_length_le (by have := pos_add h; omega)]
theorem pos_get {s : S} {l : Bs} {c : UInt8} (h : c :: l <:+ s.data.toList) (hk : pos s (c :: l) < s.size) : s[pos s (c :: l)] = c := by
 have h1 := drop_byte s _ hk
 rw [pos_drop h] at h1
 exact (List.cons.inj h1).1.symm
theorem pos_lt {s : S} {l : Bs} {c : UInt8} (h : c :: l <:+ s.data.toList) : pos s (c :: l) < s.size := by
 have := pos_add h
 simp only [List.length_cons] at this; omega
theorem pos_cons {s : S} {l : Bs} {c : UInt8} (h : c :: l <:+ s.data.toList) : pos s l = pos s (c :: l) + 1 := by
 have := pos_add h; have := pos_add (suf_tail h)
 simp only [List.length_cons] at *; omega
theorem pos_nil (s : S) : pos s [] = s.size := by unfold pos; simp
/-- The program's reader: the text, how far it was gone through, what was made. -/
structure Rd (w : World) (b : Nat) (s : S) (l : Bs) (ov : Value) : Prop where
 box : Box w b [.string s, .int .i64 (pos s l : Nat), ov]
 suf : l <:+ s.data.toList
theorem Box.grownB {w w' : World} {b : Nat} {cs : List Value} {r : Nat} (h : Box w b cs) (hg : w.grownBy w' (some r)) (hne : b ≠ r) : Box w' b cs := h.grown hg (by simpa using hne)
theorem Rd.c0 {w : World} {b : Nat} {s : S} {l : Bs} {ov : Value} (h : Rd w b s l ov) : w.cell? ⟨b, 0, none⟩ = some (.string s) := h.box.cell 0 _ rfl
theorem Rd.c1 {w : World} {b : Nat} {s : S} {l : Bs} {ov : Value} (h : Rd w b s l ov) : w.cell? ⟨b, 1, none⟩ = some (.int .i64 (pos s l : Nat)) := h.box.cell 1 _ rfl
theorem Rd.c2 {w : World} {b : Nat} {s : S} {l : Bs} {ov : Value} (h : Rd w b s l ov) : w.cell? ⟨b, 2, none⟩ = some ov := h.box.cell 2 _ rfl
theorem Rd.f1 {w : World} {b : Nat} {s : S} {l : Bs} {ov : Value} (h : Rd w b s l ov) : w.frozen? ⟨b, 1, none⟩ = false := h.box.free 1
theorem Rd.below {w w' : World} {b : Nat} {s : S} {l : Bs} {ov : Value} (h : Rd w b s l ov) (hb : Below w.heap.size w w') : Rd w' b s l ov := ⟨h.box.below hb h.box.lt, h.suf⟩
theorem Rd.drewN {w : World} {b : Nat} {s : S} {l : Bs} {ov : Value} (h : Rd w b s l ov) (n : Nat) : Rd (w.drewN n) b s l ov := ⟨h.box.drewN n, h.suf⟩
/-- The post of a function that reads alone: it may have drawn. -/
def Qt (v : Value) (w : World) (e : Ending) (w' : World) : Prop := e = .returned v ∧ ∃ n, w' = w.drewN n
theorem Qt.quiet {P : Program} {f : FuncId} {args : Array Value} {w : World} {n : Nat} {v : Value} (h : Calls P f args (w.drewN n) (Qt v (w.drewN n))) : Calls P f args (w.drewN n) fun e w'' => e = .returned v ∧ ∃ m, w'' = w.drewN m := Calls.quiet_of h
set_option maxHeartbeats 1000000 in
theorem rest_any (b : Nat) (s : S) (l : Bs) (ov : Value) (w : World) (h : Rd w b s l ov) :
    Calls Tryz.prog 188 #[.pointer (some ⟨b, 0, none⟩)] w (Qt (.string (bs l)) w) := by
 have c0 := h.c0
 have c1 := h.c1
 have hp := pos_add h.suf
 have HE := Lib.hid (pos_extract h.suf)
 have h1 : pos s l ≤ s.size := by omega
 clear h
 generalize pos s l = p at *
 have h2 : (p : Int) ≤ (s.size : Int) := by omega
 go_enter Tryz.func188, Tryz.ntmps188
 go_wp2
 go_quiet (fail)
 go_wp2
 go_ret
 exact ⟨by rw [HE.out]; rfl, ⟨_, rfl⟩⟩
set_option maxHeartbeats 1000000 in
theorem ends_any (b : Nat) (s : S) (l : Bs) (ov : Value) (w : World) (h : Rd w b s l ov) :
    Calls Tryz.prog 120 #[.pointer (some ⟨b, 0, none⟩)] w (Qt (.bool l.isEmpty) w) := by
 have c0 := h.c0
 have c1 := h.c1
 have hp := pos_add h.suf
 clear h
 generalize pos s l = p at *
 go_enter Tryz.func120, Tryz.ntmps120
 go_wp2
 go_quiet (fail)
 go_wp2
 go_ret
 refine ⟨ret_bool ?_, ⟨_, rfl⟩⟩
 cases l with
 | nil => simp at hp ⊢; omega
 | cons c l => simp at hp ⊢; omega
set_option maxHeartbeats 1000000 in
theorem has_pre (b : Nat) (s : S) (l : Bs) (ov : Value) (t : S) (w : World) (h : Rd w b s l ov) :
    Calls Tryz.prog 153 #[.pointer (some ⟨b, 0, none⟩), .string t] w (Qt (.bool (t.data.toList.isPrefixOf l)) w) := by
 have HP := Lib.hid (fun w => hasPrefix_any (bs l) t w)
 rw [bs_data] at HP
 go_enter Tryz.func153, Tryz.ntmps153
 go_wp2_with fail
 refine (rest_any b s l ov w h).mono ?_
 rintro e w' ⟨rfl, n, rfl⟩
 generalize bs l = u at *
 go_wp2_with fail
 refine (HP.out _).mono ?_
 rintro e w' ⟨rfl, rfl⟩
 go_wp2
 go_ret
 exact ⟨rfl, ⟨_, rfl⟩⟩
/-- What goes wrong, as a panic. -/
def faultV (e : Int) (n : Nat) : Value := .iface 202 (.agg #[.int .i64 e, .int .i64 n])
theorem fail_any (e : Int) (n : Nat) (w : World) :
    Calls Tryz.prog 190 #[.int .i64 e, .int .i64 n] w fun x w' => x = .panicked [{ v := faultV e n, recovered := false }] ∧ w = w' := by
 go_enter Tryz.func190, Tryz.ntmps190
 go_wp2
 exact ⟨rfl, rfl, rfl⟩
theorem grownN (w : World) (n : Nat) (row : Option Nat) : w.grownBy (w.drewN n) row := ⟨rfl, rfl, rfl, Nat.le_refl _, fun _ _ _ => rfl⟩
theorem grownOf {w w' : World} (h : Below w.heap.size w w') (row : Option Nat) : w.grownBy w' row := ⟨h.os, h.tape, h.output, h.size, fun k hk _ => h.block k hk⟩
theorem Box.set {w : World} {b : Nat} {cs : List Value} (h : Box w b cs) (j : Nat) (u : Value) : Box (w.setCell ⟨b, j, none⟩ u) b (cs.set j u) := by
 refine ⟨by simpa [World.setCell] using h.lt, fun i v hv => ?_, fun i => ?_⟩
 · rw [List.getElem?_set] at hv
   split at hv
   · rename_i hij
     subst hij
     split at hv
     · rename_i hlt
       cases hv
       have h1 := h.cell j cs[j] (by simp [hlt])
       exact World.cell?_setCell_same w _ _ h1
     · cases hv
   · rename_i hij
     rw [World.cell?_setCell_other w _ _ _ (by simp)]
     exact h.cell i v hv
 · have := h.free i
   simpa [World.frozen?_setCell] using this
theorem Rd.move {w : World} {b : Nat} {s : S} {l : Bs} {ov : Value} (h : Rd w b s l ov) {r : Bs} {v : Value} (hr : r <:+ s.data.toList) (hv : v = .int .i64 (pos s r : Nat)) : Rd (w.setCell ⟨b, 1, none⟩ v) b s r ov := by
 subst hv
 exact ⟨h.box.set 1 _, hr⟩

end Go.Proofs.YtphaeegbmfpcgaaGreatDoor
