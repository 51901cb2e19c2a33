/- Plain laws of locks' texts: a lock that may be, printed, is parsed as the same; what is parsed may be and is printed as that text; no text of a lock is the beginning of another one. -/
import Derived.Test.YtopknpainclmgaaGreatDoorD6
import Derived.Test.YtopknpainclmgaaGreatDoorD9
import Derived.Test.YtopknpainclmgaaGreatDoorD11

namespace Go.Proofs.YtopknpainclmgaaGreatDoor
open Go Go.RowKit

theorem idByte_not {c : UInt8} (h : idByte c = true) : c ≠ 10 ∧ c ≠ 32 ∧ c ≠ 58 := by
  rw [idByte_iff] at h
  refine ⟨?_, ?_, ?_⟩ <;> (rintro rfl; revert h; decide)
theorem verByte_not {c : UInt8} (h : verByte c = true) : c ≠ 10 ∧ c ≠ 32 ∧ c ≠ 58 := by
  rw [verByte_iff] at h
  refine ⟨?_, ?_, ?_⟩ <;> (rintro rfl; revert h; decide)
theorem id_clean {s : S} (h : isIdB s = true) : (10 : UInt8) ∉ s.data.toList ∧ (32 : UInt8) ∉ s.data.toList ∧ (58 : UInt8) ∉ s.data.toList ∧ s.data.toList ≠ [] := by
  unfold isIdB at h
  simp only [Bool.and_eq_true, List.all_eq_true, decide_eq_true_eq] at h
  obtain ⟨⟨h1, h2⟩, -⟩ := h
  exact ⟨fun e => (idByte_not (h1 _ e)).1 rfl, fun e => (idByte_not (h1 _ e)).2.1 rfl, fun e => (idByte_not (h1 _ e)).2.2 rfl, fun e => by have := size_data s; rw [e] at this; simp at this; omega⟩
theorem ver_clean {s : S} (h : verMay s = true) : (10 : UInt8) ∉ s.data.toList ∧ (32 : UInt8) ∉ s.data.toList ∧ (58 : UInt8) ∉ s.data.toList := by
  unfold verMay at h
  simp only [Bool.and_eq_true, List.all_eq_true, decide_eq_true_eq] at h
  obtain ⟨⟨h1, -⟩, -⟩ := h
  exact ⟨fun e => (verByte_not (h1 _ e)).1 rfl, fun e => (verByte_not (h1 _ e)).2.1 rfl, fun e => (verByte_not (h1 _ e)).2.2 rfl⟩
theorem id_small {s : S} (h : isIdB s = true) : s.size ≤ 64 := by
  unfold isIdB at h
  simp only [Bool.and_eq_true, decide_eq_true_eq] at h
  exact h.2
theorem ver_small {s : S} (h : verMay s = true) : s.size ≤ 64 := by
  unfold verMay at h
  simp only [Bool.and_eq_true, decide_eq_true_eq] at h
  exact h.2
theorem numB_byte : ∀ (k n : Nat), n < 10 ^ k → ∀ c ∈ numB n, 48 ≤ c.toNat ∧ c.toNat ≤ 57
  | 0, n, h, c, hc => by
    have : n = 0 := by simpa using h
    subst this
    rw [numB_low (by omega)] at hc
    simp at hc; subst hc; decide
  | k + 1, n, h, c, hc => by
    have hd : ∀ d : Nat, d < 10 → 48 ≤ (UInt8.ofNat (48 + d)).toNat ∧ (UInt8.ofNat (48 + d)).toNat ≤ 57 := by
      intro d hd
      rcases (by omega : d = 0 ∨ d = 1 ∨ d = 2 ∨ d = 3 ∨ d = 4 ∨ d = 5 ∨ d = 6 ∨ d = 7 ∨ d = 8 ∨ d = 9) with rfl | rfl | rfl | rfl | rfl | rfl | rfl | rfl | rfl | rfl <;> decide
    by_cases hn : n < 10
    · rw [numB_low hn] at hc
      rw [List.mem_singleton.1 hc]; exact hd n hn
    · rw [numB_high hn] at hc
      rcases List.mem_append.1 hc with hc | hc
      · exact numB_byte k (n / 10) (Nat.div_lt_of_lt_mul (by rw [Nat.pow_succ, Nat.mul_comm] at h; exact h)) c hc
      · rw [numB_low (Nat.mod_lt _ (by omega))] at hc
        rw [List.mem_singleton.1 hc]; exact hd _ (Nat.mod_lt _ (by omega))
theorem endB_clean (n : Nat) : (10 : UInt8) ∉ endB n := by
  intro h
  unfold endB at h
  rcases List.mem_append.1 h with h | h
  · revert h; decide
  · have := numB_byte n n (Nat.lt_pow_self (by omega)) _ h
    revert this; decide
theorem wordB_clean (n : Int) : (10 : UInt8) ∉ wordB n ∧ (32 : UInt8) ∉ wordB n := by
  unfold wordB
  repeat' split
  all_goals decide
def lineP (p : Pin) : Bs := pinW ++ 32 :: (keyT p.key ++ 32 :: (p.version.data.toList ++ 32 :: wordB p.scope))
theorem pinLine_eq (p : Pin) : pinLine p = lineP p ++ [10] := by unfold pinLine lineP; simp
theorem keyT_clean {k : Key} (h : keyMay k = true) : (10 : UInt8) ∉ keyT k ∧ (32 : UInt8) ∉ keyT k := by
  unfold keyMay at h
  simp only [Bool.and_eq_true, Bool.or_eq_true] at h
  obtain ⟨⟨⟨h1, h2⟩, h3⟩, h4⟩ := h
  have c1 := id_clean h1
  have c2 := id_clean h2
  have c3 := id_clean h3
  have c4 : (10 : UInt8) ∉ (if k.classifier.data.toList = [] then ([] : Bs) else 58 :: k.classifier.data.toList) ∧ (32 : UInt8) ∉ (if k.classifier.data.toList = [] then ([] : Bs) else 58 :: k.classifier.data.toList) := by
    split
    · simp
    · rename_i hne
      have h5 : isIdB k.classifier = true := by
        rcases h4 with h4 | h4
        · rw [ByteArray.toList_eq] at h4; exact absurd (List.isEmpty_iff.1 h4) hne
        · exact h4
      have c := id_clean h5
      simp only [List.mem_cons, not_or]
      exact ⟨⟨by decide, c.1⟩, ⟨by decide, c.2.1⟩⟩
  unfold keyT
  simp only [List.mem_append, List.mem_cons, not_or]
  exact ⟨⟨⟨⟨c1.1, by decide, c2.1⟩, by decide, c3.1⟩, c4.1⟩, ⟨⟨⟨c1.2.1, by decide, c2.2.1⟩, by decide, c3.2.1⟩, c4.2⟩⟩
theorem gavT_clean {g : Gav} (h : gavMay g = true) : (10 : UInt8) ∉ gavT g := by
  unfold gavMay at h
  simp only [Bool.and_eq_true] at h
  obtain ⟨⟨h1, h2⟩, h3⟩ := h
  unfold gavT
  simp only [List.mem_append, List.mem_cons, not_or]
  exact ⟨⟨(id_clean h1).1, by decide, (id_clean h2).1⟩, by decide, (ver_clean h3).1⟩
theorem keyP_keyT {k : Key} (h : keyMay k = true) : keyP (keyT k) = some k := by
  unfold keyMay at h
  simp only [Bool.and_eq_true, Bool.or_eq_true] at h
  obtain ⟨⟨⟨h1, h2⟩, h3⟩, h4⟩ := h
  have c1 := (id_clean h1).2.2.1
  have c2 := (id_clean h2).2.2.1
  have c3 := (id_clean h3).2.2.1
  unfold keyT
  by_cases hc : k.classifier.data.toList = []
  · rw [if_pos hc]
    have hp : piecesB 58 (k.group.data.toList ++ 58 :: k.artifact.data.toList ++ 58 :: k.type.data.toList ++ []) = [k.group.data.toList, k.artifact.data.toList, k.type.data.toList] := by
      rw [List.append_nil, List.append_assoc, List.cons_append, piecesB_app _ c1, piecesB_app _ c2, piecesB_none c3]
    rw [keyP_three hp, data_bs, data_bs, data_bs]
    have : bs [] = k.classifier := by rw [← hc, data_bs]
    rw [this]
  · rw [if_neg hc]
    have h5 : isIdB k.classifier = true := by
      rcases h4 with h4 | h4
      · rw [ByteArray.toList_eq] at h4; exact absurd (List.isEmpty_iff.1 h4) hc
      · exact h4
    have hp : piecesB 58 (k.group.data.toList ++ 58 :: k.artifact.data.toList ++ 58 :: k.type.data.toList ++ 58 :: k.classifier.data.toList) = [k.group.data.toList, k.artifact.data.toList, k.type.data.toList, k.classifier.data.toList] := by
      rw [List.append_assoc, List.append_assoc, List.cons_append, List.cons_append, piecesB_app _ c1, piecesB_app _ c2, piecesB_app _ c3, piecesB_none (id_clean h5).2.2.1]
    rw [keyP_four hp, if_neg hc, data_bs, data_bs, data_bs, data_bs]
theorem gavP_gavT {g : Gav} (h : gavMay g = true) : gavP (gavT g) = some g := by
  have h' := h
  unfold gavMay at h
  simp only [Bool.and_eq_true] at h
  obtain ⟨⟨h1, h2⟩, h3⟩ := h
  have hp : piecesB 58 (gavT g) = [g.group.data.toList, g.artifact.data.toList, g.version.data.toList] := by
    unfold gavT
    rw [List.append_assoc, List.cons_append, piecesB_app _ (id_clean h1).2.2.1, piecesB_app _ (id_clean h2).2.2.1, piecesB_none (ver_clean h3).2.2]
  rw [gavP_three hp, data_bs, data_bs, data_bs, if_pos h']
theorem pinMay_iff {p : Pin} : pinMay p = true ↔ keyMay p.key = true ∧ verMay p.version = true ∧ 1 ≤ p.scope ∧ p.scope ≤ 5 := by
  unfold pinMay
  simp only [Bool.and_eq_true, decide_eq_true_eq, and_assoc]
theorem scope_word {s : Int} (h1 : 1 ≤ s) (h5 : s ≤ 5) : scopeN (wordB s) = s := by
  rcases (by omega : s = 1 ∨ s = 2 ∨ s = 3 ∨ s = 4 ∨ s = 5) with rfl | rfl | rfl | rfl | rfl <;> rfl
theorem pinP_lineP {p : Pin} (h : pinMay p = true) : pinP (lineP p) = some p := by
  obtain ⟨hk, hv, h1, h5⟩ := pinMay_iff.1 h
  have hp : piecesB 32 (lineP p) = [pinW, keyT p.key, p.version.data.toList, wordB p.scope] := by
    unfold lineP
    rw [piecesB_app _ (by decide), piecesB_app _ (keyT_clean hk).2, piecesB_app _ (ver_clean hv).2.1, piecesB_none (wordB_clean _).2]
  unfold pinP
  rw [hp]
  simp only
  rw [if_pos trivial, keyP_keyT hk]
  simp only
  rw [scope_word h1 h5, data_bs, if_pos h]
theorem lineP_clean {p : Pin} (h : pinMay p = true) : (10 : UInt8) ∉ lineP p := by
  obtain ⟨hk, hv, -⟩ := pinMay_iff.1 h
  unfold lineP
  simp only [List.mem_append, List.mem_cons, not_or]
  exact ⟨by decide, by decide, (keyT_clean hk).1, by decide, (ver_clean hv).1, by decide, (wordB_clean _).1⟩
theorem lineP_end (p : Pin) (n : Nat) : lineP p ≠ endB n := by
  intro h
  have := congrArg List.head? h
  simp [lineP, pinW, endB] at this
/-- The lines of a lock's text. -/
def linesP (l : Lock) : List Bs := headB :: (rootW ++ gavT l.root) :: (l.pins.map lineP ++ [endB l.pins.length, []])
theorem pieces_pins : ∀ (ps : List Pin) (r : Bs), (∀ p ∈ ps, pinMay p = true) → piecesB 10 (ps.flatMap pinLine ++ r) = ps.map lineP ++ piecesB 10 r
  | [], r, _ => rfl
  | p :: ps, r, h => by
    rw [List.flatMap_cons, pinLine_eq, List.append_assoc, List.append_assoc, List.singleton_append, piecesB_app _ (lineP_clean (h p (by simp))), pieces_pins ps r (fun q hq => h q (by simp [hq]))]
    rfl
theorem pieces_print {l : Lock} (hg : gavMay l.root = true) (hp : ∀ p ∈ l.pins, pinMay p = true) : piecesB 10 (printB l) = linesP l := by
  have hr : (10 : UInt8) ∉ rootW ++ gavT l.root := by
    simp only [List.mem_append, not_or]
    exact ⟨by decide, gavT_clean hg⟩
  unfold printB headT linesP
  rw [List.append_assoc, List.append_assoc, List.cons_append, piecesB_app _ (by decide), List.append_assoc, List.singleton_append, piecesB_app _ hr, pieces_pins _ _ hp, piecesB_app _ (endB_clean _)]
  rfl
theorem nextOk_rises {acc ps : List Pin} {p : Pin} (h : rises ((acc ++ p :: ps).map (·.key)) = true) : nextOk acc p = true := by
  rcases List.eq_nil_or_concat acc with rfl | ⟨a, q, rfl⟩
  · rfl
  · unfold nextOk
    rw [List.concat_eq_append, List.getLast?_append]
    simp only [List.getLast?_singleton]
    rw [List.concat_eq_append, List.append_assoc, List.singleton_append, List.map_append, List.map_cons, List.map_cons] at h
    have h2 := rises_left (l := a.map (·.key) ++ [q.key, p.key]) (m := ps.map (·.key)) (by simpa using h)
    rw [rises_snoc] at h2
    simp only [Bool.and_eq_true] at h2
    exact h2.2
theorem pinsGo_lines : ∀ (ps acc : List Pin) (i n : Nat), (∀ p ∈ ps, pinMay p = true) → rises ((acc ++ ps).map (·.key)) = true → (acc ++ ps).length = n → n ≤ 4096 → pinsGo (ps.map lineP ++ [endB n, []]) i acc = .ok (acc ++ ps)
  | [], acc, i, n, _, _, hn, _ => by
    rw [List.append_nil] at hn
    rw [List.map_nil, List.nil_append, pinsGo_end (by rw [hn]), if_pos rfl, List.append_nil]
  | p :: ps, acc, i, n, hm, hr, hn, h4 => by
    rw [List.map_cons, List.cons_append, pinsGo_pin (fun h => by simp [lineP, pinW] at h) (lineP_end _ _), pinP_lineP (hm p (by simp))]
    simp only
    rw [List.length_append, List.length_cons] at hn
    rw [if_neg, pinsGo_lines ps (acc ++ [p]) (i + 1) n (fun q hq => hm q (by simp [hq])) (by simpa using hr) (by simp; omega) h4]
    · simp
    · rintro (h | h)
      · omega
      · rw [nextOk_rises hr] at h; cases h
theorem lockMay_iff {l : Lock} : lockMay l = true ↔ (∀ p ∈ l.pins, pinMay p = true) ∧ rises (l.pins.map (·.key)) = true ∧ gavMay l.root = true ∧ l.pins.length ≤ 4096 := by
  unfold lockMay
  simp only [Bool.and_eq_true, decide_eq_true_eq, List.all_eq_true, and_assoc]
theorem parse_print {l : Lock} (h : lockMay l = true) : parseB (printB l) = .ok l := by
  obtain ⟨hp, hr, hg, hn⟩ := lockMay_iff.1 h
  rw [parseB_L, pieces_print hg hp, linesP, parseL_cons, if_pos rfl, parse1_some (fun h => by simp [rootW] at h)]
  have hroot : rootP (rootW ++ gavT l.root) = some l.root := by
    unfold rootP
    rw [if_pos (by rw [List.isPrefixOf_iff_prefix]; exact List.prefix_append _ _)]
    show gavP ((rootW ++ gavT l.root).drop rootW.length) = _
    rw [List.drop_left]
    exact gavP_gavT hg
  rw [hroot]
  simp only
  rw [pinsGo_lines l.pins [] 2 _ hp (by simpa using hr) (by simp) hn]
  rfl
/-- What a lock that may be is printed as is not too long. -/
theorem may_small {l : Lock} (h : lockMay l = true) : lockS l := by
  obtain ⟨hp, -, hg, hn⟩ := lockMay_iff.1 h
  unfold gavMay at hg
  simp only [Bool.and_eq_true] at hg
  obtain ⟨⟨g1, g2⟩, g3⟩ := hg
  refine ⟨⟨Nat.le_trans (id_small g1) (by decide), Nat.le_trans (id_small g2) (by decide), Nat.le_trans (ver_small g3) (by decide)⟩, fun p hpm => ?_, by omega⟩
  obtain ⟨hk, hv, -⟩ := pinMay_iff.1 (hp p hpm)
  unfold keyMay at hk
  simp only [Bool.and_eq_true, Bool.or_eq_true] at hk
  obtain ⟨⟨⟨h1, h2⟩, h3⟩, h4⟩ := hk
  refine ⟨⟨Nat.le_trans (id_small h1) (by decide), Nat.le_trans (id_small h2) (by decide), Nat.le_trans (id_small h3) (by decide), ?_⟩, Nat.le_trans (ver_small hv) (by decide)⟩
  rcases h4 with h4 | h4
  · rw [ByteArray.toList_eq] at h4
    have h5 := size_data p.key.classifier
    rw [List.isEmpty_iff.1 h4] at h5
    simp at h5; omega
  · exact Nat.le_trans (id_small h4) (by decide)

end Go.Proofs.YtopknpainclmgaaGreatDoor
