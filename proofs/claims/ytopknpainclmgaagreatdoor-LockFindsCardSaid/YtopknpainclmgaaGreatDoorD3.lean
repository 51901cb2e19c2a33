/- Walks: the words of scopes, the program's and the document's; the scope of a word; the texts of keys; the conditions stand in the theorems. -/
import Derived.Test.YtopknpainclmgaaGreatDoorD2
import Derived.Laws.EntriesVeiled
namespace Go.Proofs.YtopknpainclmgaaGreatDoor
open Go Go.RowKit

def wordB (n : Int) : Bs :=
  if n = 1 then [99, 111, 109, 112, 105, 108, 101] else if n = 2 then [114, 117, 110, 116, 105, 109, 101] else if n = 3 then [112, 114, 111, 118, 105, 100, 101, 100] else if n = 4 then [115, 121, 115, 116, 101, 109]
  else if n = 5 then [116, 101, 115, 116] else if n = 6 then [105, 109, 112, 111, 114, 116] else []
def keyT (k : Key) : Bs := k.group.data.toList ++ 58 :: k.artifact.data.toList ++ 58 :: k.type.data.toList ++ (if k.classifier.data.toList = [] then [] else 58 :: k.classifier.data.toList)
theorem word_any (n : Int) (w : World) : Calls Tryz.prog 35 #[.int .i64 n] w fun e w' => e = .returned (.string (bs (wordB n))) ∧ w = w' := by
  go_enter Tryz.func35, Tryz.ntmps35
  by_cases h1 : n = 1
  · subst h1
    go_wp2
    go_ret
    exact ⟨rfl, rfl⟩
  by_cases h2 : n = 2
  · subst h2
    go_wp2
    go_ret
    exact ⟨rfl, rfl⟩
  by_cases h3 : n = 3
  · subst h3
    go_wp2
    go_ret
    exact ⟨rfl, rfl⟩
  by_cases h4 : n = 4
  · subst h4
    go_wp2
    go_ret
    exact ⟨rfl, rfl⟩
  by_cases h5 : n = 5
  · subst h5
    go_wp2
    go_ret
    exact ⟨rfl, rfl⟩
  by_cases h6 : n = 6
  · subst h6
    go_wp2
    go_ret
    exact ⟨rfl, rfl⟩
  have HW : Hid (wordB n = []) := by show _ = _; unfold wordB; rw [if_neg h1, if_neg h2, if_neg h3, if_neg h4, if_neg h5, if_neg h6]
  go_wp2
  go_ret
  exact ⟨by rw [HW.out]; rfl, rfl⟩
def keyS (k : Key) : Prop := k.group.size ≤ 1000 ∧ k.artifact.size ≤ 1000 ∧ k.type.size ≤ 1000 ∧ k.classifier.size ≤ 1000
set_option maxRecDepth 100000 in
theorem printKey_any (k : Key) (w : World) (h : keyS k) : Calls Tryz.prog 34 #[.agg #[.string k.group, .string k.artifact, .string k.type, .string k.classifier]] w fun e w' => e = .returned (.string (bs (keyT k))) ∧ Below w.heap.size w w' := by
  obtain ⟨h1, h2, h3, h4⟩ := h
  have HB : Hid (∀ o, Below w.heap.size w (w.alloc o)) := fun o => (Below.refl _ w).alloc (Nat.le_refl _) _
  go_enter Tryz.func34, Tryz.ntmps34
  by_cases hc : k.classifier.data.toList = []
  · have he : (k.classifier.toList == []) = true := by rw [str_lit]; simpa using hc
    have HK : Hid (bs (keyT k) = k.group ++ bs [58] ++ k.artifact ++ bs [58] ++ k.type) := by
      show _ = _
      unfold keyT
      rw [if_pos hc]
      conv => rhs; rw [← data_bs k.group, ← data_bs k.artifact, ← data_bs k.type]
      simp only [bs_append, List.append_assoc, List.append_nil, List.cons_append, List.nil_append]
    clear hc
    go_wp2
    go_ret
    exact ⟨by rw [HK.out]; rfl, HB.out _⟩
  · have he : (k.classifier.toList == []) = false := by rw [str_lit]; simpa using hc
    have HK : Hid (bs (keyT k) = k.group ++ bs [58] ++ k.artifact ++ bs [58] ++ k.type ++ (bs [58] ++ k.classifier)) := by
      show _ = _
      unfold keyT
      rw [if_neg hc]
      conv => rhs; rw [← data_bs k.group, ← data_bs k.artifact, ← data_bs k.type, ← data_bs k.classifier]
      simp only [bs_append, List.append_assoc, List.cons_append, List.nil_append]
    clear hc
    go_wp2
    go_ret
    exact ⟨by rw [HK.out]; rfl, HB.out _⟩
/-- The scope of a word, 6 the import's; 0: it is none. -/
def scopeW (d : Bs) : Int := if scopeN d ≠ 0 then scopeN d else if d = [105, 109, 112, 111, 114, 116] then 6 else 0
theorem bs_eqb (a b : Bs) : ((bs a).toList == (bs b).toList) = decide (a = b) := bs_beq a b
set_option maxRecDepth 100000 in
set_option maxHeartbeats 4000000 in
theorem scope_any (d : Bs) (w : World) : Calls Tryz.prog 54 #[.string (bs d)] w fun e w' => e = .returned (.tuple #[.int .i64 (scopeW d), .bool (decide (scopeW d ≠ 0))]) ∧ w = w' := by
  go_enter Tryz.func54, Tryz.ntmps54
  go_wp2_with fail
  go_loop [5] (fun iv => ∃ i : Nat, i ≤ 7 ∧ iv = .int .i64 i ∧ ∀ j : Nat, 1 ≤ j → j < i → wordB j ≠ d) (fun iv => 7 - (intOf iv).toNat)
  case atStart => exact ⟨0, by omega, rfl, fun j h1 h2 => by omega⟩
  case round =>
    obtain ⟨i, hi, rfl, hno⟩ := hrel
    have HNO := Lib.hid hno
    clear hno
    rcases (by omega : i = 0 ∨ i = 1 ∨ i = 2 ∨ i = 3 ∨ i = 4 ∨ i = 5 ∨ i = 6 ∨ i = 7) with rfl | rfl | rfl | rfl | rfl | rfl | rfl | rfl
    · go_wp2
      go_round
      case rel => exact ⟨1, by omega, rfl, fun j h1 h2 => by omega⟩
      case measure => simp [intOf]
    · have HC := Lib.hid (word_any 1 w)
      go_wp2_with fail
      refine HC.out.mono ?_
      rintro e w' ⟨rfl, rfl⟩
      by_cases hd : wordB 1 = d
      · have HS : Hid (scopeW d = 1) := by show _ = _; rw [← hd]; rfl
        have he := bs_eqb (wordB 1) d
        rw [decide_eq_true hd] at he
        clear hd
        go_wp2
        go_ret2
        exact ⟨by rw [HS.out]; rfl, rfl⟩
      · have HD := Lib.hid hd
        have he := bs_eqb (wordB 1) d
        rw [decide_eq_false hd] at he
        clear hd
        go_wp2
        go_round
        case rel => exact ⟨2, by omega, rfl, fun j h1 h2 => by
          by_cases hj : j = 1
          · subst hj; exact HD.out
          · exact HNO.out j h1 (by omega)⟩
        case measure => simp [intOf]
    · have HC := Lib.hid (word_any 2 w)
      go_wp2_with fail
      refine HC.out.mono ?_
      rintro e w' ⟨rfl, rfl⟩
      by_cases hd : wordB 2 = d
      · have HS : Hid (scopeW d = 2) := by show _ = _; rw [← hd]; rfl
        have he := bs_eqb (wordB 2) d
        rw [decide_eq_true hd] at he
        clear hd
        go_wp2
        go_ret2
        exact ⟨by rw [HS.out]; rfl, rfl⟩
      · have HD := Lib.hid hd
        have he := bs_eqb (wordB 2) d
        rw [decide_eq_false hd] at he
        clear hd
        go_wp2
        go_round
        case rel => exact ⟨3, by omega, rfl, fun j h1 h2 => by
          by_cases hj : j = 2
          · subst hj; exact HD.out
          · exact HNO.out j h1 (by omega)⟩
        case measure => simp [intOf]
    · have HC := Lib.hid (word_any 3 w)
      go_wp2_with fail
      refine HC.out.mono ?_
      rintro e w' ⟨rfl, rfl⟩
      by_cases hd : wordB 3 = d
      · have HS : Hid (scopeW d = 3) := by show _ = _; rw [← hd]; rfl
        have he := bs_eqb (wordB 3) d
        rw [decide_eq_true hd] at he
        clear hd
        go_wp2
        go_ret2
        exact ⟨by rw [HS.out]; rfl, rfl⟩
      · have HD := Lib.hid hd
        have he := bs_eqb (wordB 3) d
        rw [decide_eq_false hd] at he
        clear hd
        go_wp2
        go_round
        case rel => exact ⟨4, by omega, rfl, fun j h1 h2 => by
          by_cases hj : j = 3
          · subst hj; exact HD.out
          · exact HNO.out j h1 (by omega)⟩
        case measure => simp [intOf]
    · have HC := Lib.hid (word_any 4 w)
      go_wp2_with fail
      refine HC.out.mono ?_
      rintro e w' ⟨rfl, rfl⟩
      by_cases hd : wordB 4 = d
      · have HS : Hid (scopeW d = 4) := by show _ = _; rw [← hd]; rfl
        have he := bs_eqb (wordB 4) d
        rw [decide_eq_true hd] at he
        clear hd
        go_wp2
        go_ret2
        exact ⟨by rw [HS.out]; rfl, rfl⟩
      · have HD := Lib.hid hd
        have he := bs_eqb (wordB 4) d
        rw [decide_eq_false hd] at he
        clear hd
        go_wp2
        go_round
        case rel => exact ⟨5, by omega, rfl, fun j h1 h2 => by
          by_cases hj : j = 4
          · subst hj; exact HD.out
          · exact HNO.out j h1 (by omega)⟩
        case measure => simp [intOf]
    · have HC := Lib.hid (word_any 5 w)
      go_wp2_with fail
      refine HC.out.mono ?_
      rintro e w' ⟨rfl, rfl⟩
      by_cases hd : wordB 5 = d
      · have HS : Hid (scopeW d = 5) := by show _ = _; rw [← hd]; rfl
        have he := bs_eqb (wordB 5) d
        rw [decide_eq_true hd] at he
        clear hd
        go_wp2
        go_ret2
        exact ⟨by rw [HS.out]; rfl, rfl⟩
      · have HD := Lib.hid hd
        have he := bs_eqb (wordB 5) d
        rw [decide_eq_false hd] at he
        clear hd
        go_wp2
        go_round
        case rel => exact ⟨6, by omega, rfl, fun j h1 h2 => by
          by_cases hj : j = 5
          · subst hj; exact HD.out
          · exact HNO.out j h1 (by omega)⟩
        case measure => simp [intOf]
    · have HC := Lib.hid (word_any 6 w)
      go_wp2_with fail
      refine HC.out.mono ?_
      rintro e w' ⟨rfl, rfl⟩
      by_cases hd : wordB 6 = d
      · have HS : Hid (scopeW d = 6) := by show _ = _; rw [← hd]; rfl
        have he := bs_eqb (wordB 6) d
        rw [decide_eq_true hd] at he
        clear hd
        go_wp2
        go_ret2
        exact ⟨by rw [HS.out]; rfl, rfl⟩
      · have HD := Lib.hid hd
        have he := bs_eqb (wordB 6) d
        rw [decide_eq_false hd] at he
        clear hd
        go_wp2
        go_round
        case rel => exact ⟨7, by omega, rfl, fun j h1 h2 => by
          by_cases hj : j = 6
          · subst hj; exact HD.out
          · exact HNO.out j h1 (by omega)⟩
        case measure => simp [intOf]
    · have HS : Hid (scopeW d = 0) := by
        show _ = _
        have h1 := HNO.out 1 (by omega) (by omega)
        have h2 := HNO.out 2 (by omega) (by omega)
        have h3 := HNO.out 3 (by omega) (by omega)
        have h4 := HNO.out 4 (by omega) (by omega)
        have h5 := HNO.out 5 (by omega) (by omega)
        have h6 := HNO.out 6 (by omega) (by omega)
        have hn : scopeN d = 0 := by
          unfold scopeN
          rw [if_neg (fun e => h1 e.symm), if_neg (fun e => h2 e.symm), if_neg (fun e => h3 e.symm), if_neg (fun e => h4 e.symm), if_neg (fun e => h5 e.symm)]
        unfold scopeW
        rw [hn, if_neg (by simp), if_neg (fun e => h6 e.symm)]
      go_wp2
      go_ret2
      exact ⟨by rw [HS.out]; rfl, rfl⟩

end Go.Proofs.YtopknpainclmgaaGreatDoor
