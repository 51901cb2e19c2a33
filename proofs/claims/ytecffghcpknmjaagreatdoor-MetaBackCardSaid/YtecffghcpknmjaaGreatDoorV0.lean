/- A version's parts, their order: plain functions on bytes, and that it does not matter in which order parts that count for nothing are struck; no program in sight. -/
import Derived.Test.YtecffghcpknmjaaGreatDoorL0
import Derived.Test.YtecffghcpknmjaaGreatDoorK0

namespace Go.Proofs.YtecffghcpknmjaaGreatDoor
open Go Go.RowKit

structure Pc where
  text : Bs
  hyphen : Bool
  close : Bool
structure PartV where
  hyphen : Bool
  number : Bool
  text : Bs
  deriving DecidableEq
def lowV (c : UInt8) : UInt8 := if 65 ≤ c.toNat ∧ c.toNat ≤ 90 then c + 32 else c
def markV (c : UInt8) : Bool := c.toNat == 46 || c.toNat == 45
/-- cur: the piece so far; hy: what stands ahead of it. -/
def cutGo : Bs → Bs → Bool → List Pc
  | [], cur, hy => [⟨cur, hy, false⟩]
  | c :: r, cur, hy => if markV c then ⟨cur, hy, false⟩ :: cutGo r [] (c.toNat == 45)
    else if !cur.isEmpty && (cDigit c != cDigit (cur.getLastD 0)) then ⟨cur, hy, true⟩ :: cutGo r [c] true
    else cutGo r (cur ++ [c]) hy
def wGa : Bs := [103, 97]
def wFinal : Bs := [102, 105, 110, 97, 108]
def wRelease : Bs := [114, 101, 108, 101, 97, 115, 101]
def wCr : Bs := [99, 114]
def wRc : Bs := [114, 99]
def wAlpha : Bs := [97, 108, 112, 104, 97]
def wBeta : Bs := [98, 101, 116, 97]
def wMilestone : Bs := [109, 105, 108, 101, 115, 116, 111, 110, 101]
def wSnapshot : Bs := [115, 110, 97, 112, 115, 104, 111, 116]
def wSp : Bs := [115, 112]
def wordW (s : Bs) (n : Bool) : Bs :=
  if s = wGa ∨ s = wFinal ∨ s = wRelease then [] else if s = wCr then wRc else if n = true ∧ s = [97] then wAlpha else if n = true ∧ s = [98] then wBeta else if n = true ∧ s = [109] then wMilestone else s
def isNum (s : Bs) : Bool := s.all cDigit
def noNull (s : Bs) : Bs := s.dropWhile fun c => c.toNat == 48
def partV (p : Pc) : PartV := if isNum p.text then ⟨p.hyphen, true, noNull p.text⟩ else ⟨p.hyphen, false, wordW p.text p.close⟩
def goneV (p : PartV) (r : List PartV) : Bool := p.text.isEmpty && (r.isEmpty || (r.head?.map (·.hyphen)).getD false)
def delV : List PartV → List PartV
  | [] => []
  | p :: r => if goneV p (delV r) then delV r else p :: delV r
def rawV (T : Bs) : List PartV := (cutGo (T.map lowV) [] false).map partV
def partsV (T : Bs) : List PartV := match rawV T with
  | [] => []
  | p :: r => p :: delV r
theorem cutGo_ne (T cur : Bs) (hy : Bool) : cutGo T cur hy ≠ [] := by
  induction T generalizing cur hy with
  | nil => simp [cutGo]
  | cons c r ih =>
    unfold cutGo
    split
    · simp
    · split
      · simp
      · exact ih _ _
/-- What may be struck, by what stands behind it now. -/
def openV (l : List PartV) (j : Nat) : Bool := match l[j]? with
  | none => false
  | some p => p.text.isEmpty && (decide (j + 1 = l.length) || ((l[j + 1]?).map (·.hyphen)).getD false)
theorem delV_head {p : PartV} {r : List PartV} (h : p.hyphen = true) : (delV (p :: r)).isEmpty = true ∨ (((delV (p :: r)).head?).map (·.hyphen)).getD false = true := by
  induction r generalizing p with
  | nil =>
    unfold delV
    split
    · exact .inl rfl
    · exact .inr (by simpa using h)
  | cons q r ih =>
    unfold delV
    split
    · rename_i hg
      unfold goneV at hg
      simp only [Bool.and_eq_true, Bool.or_eq_true] at hg
      exact hg.2
    · exact .inr (by simpa using h)
theorem delV_erase : ∀ {l : List PartV} {j : Nat}, openV l j = true → delV (l.eraseIdx j) = delV l
  | [], j, h => by simp [openV] at h
  | p :: r, 0, h => by
    simp only [openV, List.getElem?_cons_zero, Bool.and_eq_true, Bool.or_eq_true, decide_eq_true_eq] at h
    rw [List.eraseIdx_cons_zero]
    conv => rhs; unfold delV
    rw [if_pos]
    unfold goneV
    rw [h.1, Bool.true_and, Bool.or_eq_true]
    rcases h.2 with h2 | h2
    · have : r = [] := by simpa using h2
      subst this
      exact .inl rfl
    · cases r with
      | nil => simp at h2
      | cons q r => exact delV_head (by simpa using h2)
  | p :: r, j + 1, h => by
    have h' : openV r j = true := by
      simp only [openV, List.getElem?_cons_succ, List.length_cons] at h ⊢
      simpa using h
    rw [List.eraseIdx_cons_succ]
    conv => lhs; unfold delV
    conv => rhs; unfold delV
    rw [delV_erase h']
theorem delV_done : ∀ {l : List PartV}, (∀ j, openV l j = false) → delV l = l
  | [], _ => rfl
  | p :: r, h => by
    have h' : ∀ j, openV r j = false := fun j => by
      have := h (j + 1)
      simp only [openV, List.getElem?_cons_succ, List.length_cons] at this ⊢
      simpa using this
    have ih := delV_done h'
    unfold delV
    rw [ih, if_neg]
    have := h 0
    simp only [openV, List.getElem?_cons_zero] at this
    unfold goneV
    cases r with
    | nil => simpa using this
    | cons q r => simpa using this
/-! The order. -/
def wordsV : List Bs := [wAlpha, wBeta, wMilestone, wRc, wSnapshot, [], wSp]
def rankV (p : PartV) : Nat := if p.number then (if p.text.isEmpty then 5 else if p.hyphen then 8 else 9) else (wordsV.findIdx? (fun w => decide (p.text = w))).getD 7
def snapV (T : Bs) : Bool := (partsV T).any fun p => !p.number && decide (p.text = wSnapshot)
theorem wordW_ga (s : Bs) (n : Bool) : wordW s n ≠ wGa := by
  unfold wordW
  split
  · decide
  · rename_i h
    split
    · decide
    · split
      · decide
      · split
        · decide
        · split
          · decide
          · exact fun e => h (.inl e)
theorem partV_ga (p : Pc) : (partV p).number = false → (partV p).text ≠ wGa := by
  unfold partV
  split
  · simp
  · exact fun _ => wordW_ga _ _
theorem delV_mem : ∀ {l : List PartV} {p : PartV}, p ∈ delV l → p ∈ l
  | [], _, h => h
  | q :: r, p, h => by
    unfold delV at h
    split at h
    · exact List.mem_cons_of_mem _ (delV_mem h)
    · rcases List.mem_cons.1 h with h | h
      · rw [h]; exact List.mem_cons_self
      · exact List.mem_cons_of_mem _ (delV_mem h)
theorem partsV_ga {T : Bs} {p : PartV} (h : p ∈ partsV T) : p.number = false → p.text ≠ wGa := by
  have h2 : p ∈ rawV T := by
    unfold partsV at h
    split at h
    · cases h
    · rename_i q r e
      rw [e]
      rcases List.mem_cons.1 h with h | h
      · rw [h]; exact List.mem_cons_self
      · exact List.mem_cons_of_mem _ (delV_mem h)
  obtain ⟨x, -, rfl⟩ := List.mem_map.1 h2
  exact partV_ga x

end Go.Proofs.YtecffghcpknmjaaGreatDoor
