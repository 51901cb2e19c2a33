/- Texts of locks: pieces, numbers, words, which text is which lock or which line is wrong; no program in sight. -/
import Derived.Test.YtopknpainclmgaaGreatDoorL0
import Derived.Lib.SplitLaws
namespace Go.Proofs.YtopknpainclmgaaGreatDoor
open Go Go.RowKit

/-- A text cut at each byte c. -/
def piecesB (c : UInt8) : Bs → List Bs
  | [] => [[]]
  | x :: l => if x = c then [] :: piecesB c l else match piecesB c l with
    | p :: ps => (x :: p) :: ps
    | [] => []
theorem piecesB_cons (c : UInt8) : ∀ l : Bs, ∃ p ps, piecesB c l = p :: ps
  | [] => ⟨_, _, rfl⟩
  | x :: l => by
    obtain ⟨p, ps, h⟩ := piecesB_cons c l
    by_cases hx : x = c
    · exact ⟨[], piecesB c l, by rw [piecesB, if_pos hx]⟩
    · exact ⟨x :: p, ps, by rw [piecesB, if_neg hx, h]⟩
theorem piecesB_ne (c : UInt8) (l : Bs) : piecesB c l ≠ [] := by
  obtain ⟨p, ps, h⟩ := piecesB_cons c l
  rw [h]; simp
theorem piecesB_hit (c : UInt8) (l : Bs) : piecesB c (c :: l) = [] :: piecesB c l := by rw [piecesB, if_pos rfl]
theorem piecesB_miss {c x : UInt8} {l p : Bs} {ps : List Bs} (hx : x ≠ c) (h : piecesB c l = p :: ps) : piecesB c (x :: l) = (x :: p) :: ps := by rw [piecesB, if_neg hx, h]
theorem piecesB_snoc (c : UInt8) : ∀ l : Bs, piecesB c (l ++ [c]) = piecesB c l ++ [[]]
  | [] => by rw [List.nil_append, piecesB_hit]; rfl
  | x :: l => by
    have ih := piecesB_snoc c l
    obtain ⟨p, ps, h⟩ := piecesB_cons c l
    rw [List.cons_append]
    by_cases hx : x = c
    · subst hx; rw [piecesB_hit, piecesB_hit, ih]; rfl
    · rw [piecesB_miss hx h, piecesB_miss hx (by rw [ih, h]; rfl)]; rfl
theorem piecesB_snoc_ne {c x : UInt8} (hx : x ≠ c) : ∀ (l : Bs) (i : List Bs) (q : Bs), piecesB c l = i ++ [q] → piecesB c (l ++ [x]) = i ++ [q ++ [x]]
  | [], i, q, h => by
    cases i with
    | nil =>
      have h' : [([] : Bs)] = [q] := h
      cases h'
      rw [List.nil_append, piecesB_miss hx rfl]; rfl
    | cons a i =>
      have h' : [([] : Bs)] = a :: (i ++ [q]) := h
      have := congrArg List.length h'
      simp at this
  | y :: l, i, q, h => by
    obtain ⟨p, ps, hp⟩ := piecesB_cons c l
    rw [List.cons_append]
    by_cases hy : y = c
    · subst hy
      rw [piecesB_hit] at h
      cases i with
      | nil =>
        have h' : ([] : Bs) :: piecesB y l = [q] := h
        exact absurd (List.cons.inj h').2 (piecesB_ne _ _)
      | cons a i =>
        have h' : ([] : Bs) :: piecesB y l = a :: (i ++ [q]) := h
        obtain ⟨rfl, h2⟩ := List.cons.inj h'
        rw [piecesB_hit, piecesB_snoc_ne hx l i q h2]; rfl
    · rw [piecesB_miss hy hp] at h
      cases i with
      | nil =>
        have h' : (y :: p) :: ps = [q] := h
        obtain ⟨rfl, rfl⟩ := List.cons.inj h'
        rw [piecesB_miss hy (piecesB_snoc_ne hx l [] p hp)]; rfl
      | cons a i =>
        have h' : (y :: p) :: ps = a :: (i ++ [q]) := h
        obtain ⟨rfl, rfl⟩ := List.cons.inj h'
        rw [piecesB_miss hy (piecesB_snoc_ne hx l (p :: i) q hp)]; rfl
theorem piecesB_none {c : UInt8} : ∀ {l : Bs}, c ∉ l → piecesB c l = [l]
  | [], _ => rfl
  | x :: l, h => by
    simp only [List.mem_cons, not_or] at h
    rw [piecesB_miss (Ne.symm h.1) (piecesB_none h.2)]
theorem piecesB_app {c : UInt8} : ∀ {p : Bs} (l : Bs), c ∉ p → piecesB c (p ++ c :: l) = p :: piecesB c l
  | [], l, _ => by rw [List.nil_append, piecesB_hit]
  | x :: p, l, h => by
    simp only [List.mem_cons, not_or] at h
    rw [List.cons_append, piecesB_miss (Ne.symm h.1) (piecesB_app l h.2)]
/-- What the pieces are joined to is the text. -/
def gluedB (c : UInt8) : List Bs → Bs
  | [] => []
  | [p] => p
  | p :: q :: ps => p ++ c :: gluedB c (q :: ps)
theorem glued_pieces (c : UInt8) : ∀ l : Bs, gluedB c (piecesB c l) = l
  | [] => rfl
  | x :: l => by
    have ih := glued_pieces c l
    obtain ⟨p, ps, h⟩ := piecesB_cons c l
    by_cases hx : x = c
    · subst hx; rw [piecesB_hit, h, gluedB, ← h, ih]; rfl
    · rw [piecesB_miss hx h]
      rw [h] at ih
      cases ps with
      | nil => rw [← ih]; rfl
      | cons q ps => rw [← ih]; rfl
/-! The library's cutting. -/
theorem cut_split (c : UInt8) (l : Bs) : (c ∉ l ∧ Lib.index l [c] = -1) ∨ ∃ p r, l = p ++ c :: r ∧ c ∉ p ∧ Lib.index l [c] = p.length := by
  induction l with
  | nil => exact .inl ⟨by simp, rfl⟩
  | cons x l ih =>
    by_cases hx : x = c
    · subst hx
      exact .inr ⟨[], l, rfl, by simp, by unfold Lib.index; rw [if_pos (by simp [List.isPrefixOf])]; rfl⟩
    · have hpre : ([c] : Bs).isPrefixOf (x :: l) = false := by simp [List.isPrefixOf, Ne.symm hx]
      rcases ih with ⟨h1, h2⟩ | ⟨p, r, h1, h2, h3⟩
      · refine .inl ⟨by simp only [List.mem_cons, not_or]; exact ⟨Ne.symm hx, h1⟩, ?_⟩
        unfold Lib.index
        rw [hpre, h2]; rfl
      · refine .inr ⟨x :: p, r, by rw [h1]; rfl, by simp only [List.mem_cons, not_or]; exact ⟨Ne.symm hx, h2⟩, ?_⟩
        unfold Lib.index
        rw [hpre, h3]
        simp only [Bool.false_eq_true, if_false, List.length_cons]
        rw [if_neg (by simp)]
        omega
theorem splitK_pieces (c : UInt8) : ∀ (n : Nat) (l : Bs), l.count c = n → Lib.splitK [c] 0 n l = piecesB c l
  | 0, l, h => by
    have : c ∉ l := by rwa [List.count_eq_zero] at h
    rw [piecesB_none this]; rfl
  | n + 1, l, h => by
    rcases cut_split c l with ⟨h1, h2⟩ | ⟨p, r, h1, h2, h3⟩
    · rw [List.count_eq_zero.2 h1] at h; omega
    · unfold Lib.splitK
      rw [h3, if_neg (by simp)]
      have h4 : r.count c = n := by
        rw [h1, List.count_append, List.count_cons_self, List.count_eq_zero.2 h2] at h
        omega
      simp only [Int.toNat_natCast, Nat.add_zero, List.length_singleton]
      rw [h1, piecesB_app r h2, List.take_left' rfl]
      congr 1
      have : (p ++ c :: r).drop (p.length + 1) = r := by
        rw [List.drop_append]
        simp
      rw [this]
      exact splitK_pieces c n r h4
theorem split_pieces (c : UInt8) (l : Bs) : Lib.splitK [c] 0 (Lib.count l [c]) l = piecesB c l := by
  rw [Lib.count_one]; exact splitK_pieces c _ l rfl
/-! Numbers, words, keys. -/
def numB (n : Nat) : Bs := if n < 10 then [UInt8.ofNat (48 + n)] else numB (n / 10) ++ [UInt8.ofNat (48 + n % 10)]
def headB : Bs := [112, 111, 109, 97, 99, 101, 32, 49]
def rootW : Bs := [114, 111, 111, 116, 32]
def pinW : Bs := [112, 105, 110]
def endB (n : Nat) : Bs := [101, 110, 100, 32] ++ numB n
def gavP (s : Bs) : Option Gav := match piecesB 58 s with
  | [a, b, c] => if gavMay ⟨bs a, bs b, bs c⟩ then some ⟨bs a, bs b, bs c⟩ else none
  | _ => none
def rootP (t : Bs) : Option Gav := if rootW.isPrefixOf t then gavP (t.drop 5) else none
def keyP (s : Bs) : Option Key := match piecesB 58 s with
  | [a, b, c] => some ⟨bs a, bs b, bs c, bs []⟩
  | [a, b, c, d] => if d = [] then none else some ⟨bs a, bs b, bs c, bs d⟩
  | _ => none
def scopeN (d : Bs) : Int :=
  if d = [99, 111, 109, 112, 105, 108, 101] then 1 else if d = [114, 117, 110, 116, 105, 109, 101] then 2 else if d = [112, 114, 111, 118, 105, 100, 101, 100] then 3
  else if d = [115, 121, 115, 116, 101, 109] then 4 else if d = [116, 101, 115, 116] then 5 else 0
def pinP (t : Bs) : Option Pin := match piecesB 32 t with
  | [a, b, c, d] => if a = pinW then (match keyP b with
    | some k => if pinMay ⟨k, bs c, scopeN d⟩ then some ⟨k, bs c, scopeN d⟩ else none
    | none => none) else none
  | _ => none
def nextOk (acc : List Pin) (p : Pin) : Bool := match acc.getLast? with
  | some q => decide (cmpK q.key p.key = -1)
  | none => true
/-- The lines from number i on (counted from 0): the pins, or which line is wrong. -/
def pinsGo : List Bs → Nat → List Pin → Except Nat (List Pin)
  | [], i, _ => .error (i + 1)
  | t :: r, i, acc =>
    if t = [] ∧ r = [] then .error (i + 1)
    else if t = endB acc.length then (if r = [[]] then .ok acc else .error (i + 2))
    else match pinP t with
      | none => .error (i + 1)
      | some p => if 4096 ≤ acc.length ∨ nextOk acc p = false then .error (i + 1) else pinsGo r (i + 1) (acc ++ [p])
def parseB (s : Bs) : Except Nat Lock := match piecesB 10 s with
  | [] => .error 1
  | t0 :: r0 => if t0 = headB then (match r0 with
    | [] => .error 2
    | t1 :: r1 => if t1 = [] ∧ r1 = [] then .error 2 else (match rootP t1 with
      | none => .error 2
      | some g => match pinsGo r1 2 [] with
        | .error k => .error k
        | .ok ps => .ok ⟨g, ps⟩)) else .error 1

end Go.Proofs.YtopknpainclmgaaGreatDoor
