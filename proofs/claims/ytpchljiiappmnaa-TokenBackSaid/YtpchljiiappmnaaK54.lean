/- The walk of the document's Joined; its conditions stand in the theorem. -/
import Derived.Test.YtpchljiiappmnaaK53
import Derived.Test.YtpchljiiappmnaaK51
import Derived.StillTailTactics
namespace Go.Proofs.Ytpchljiiappmnaa
open Go Go.RowKit

def joinStep (out : List Tk) (t : Tk) : List Tk :=
  if t.kind = 4 ∧ t.text = [] then out
  else match out.getLast? with
    | some u => if t.kind = 4 ∧ u.kind = 4 then out.dropLast ++ [{ u with text := u.text ++ t.text }] else out ++ [t]
    | none => out ++ [t]
theorem joinGo_cons (out : List Tk) (t : Tk) (l : List Tk) : joinGo out (t :: l) = joinGo (joinStep out t) l := by
  simp only [joinGo, joinStep]
  by_cases h : t.kind = 4 ∧ t.text = []
  · rw [if_pos h, if_pos h]
  · rw [if_neg h, if_neg h]
    cases hu : out.getLast? with
    | none => rfl
    | some u =>
      simp only
      by_cases h2 : t.kind = 4 ∧ u.kind = 4
      · rw [if_pos h2, if_pos h2]
      · rw [if_neg h2, if_neg h2]
theorem joinGo_snoc (out l : List Tk) (t : Tk) : joinGo out (l ++ [t]) = joinStep (joinGo out l) t := by
  induction l generalizing out with
  | nil => rw [List.nil_append, joinGo_cons]; rfl
  | cons x l ih => rw [List.cons_append, joinGo_cons, ih, joinGo_cons]
theorem tksW_len (l : List Tk) : 20 * l.length ≤ tksW l := by
  induction l with
  | nil => exact Nat.zero_le _
  | cons t l ih => unfold tksW at *; simp only [List.map_cons, List.sum_cons, List.length_cons, tkW]; omega
theorem tksW_snoc {l : List Tk} {k : Nat} (h : k < l.length) : tksW (l.take (k + 1)) = tksW (l.take k) + tkW l[k] := by
  rw [List.take_succ_eq_append_getElem h]; unfold tksW; rw [List.map_append, List.sum_append]; simp

/-- What the loop has joined so far. -/
structure JoinAt (w wr : World) (L : List TkM) (k : Nat) (ov : Value) (M : List TkM) : Prop where
  own : Owns w.heap.size 34 7 tkC wr ov M
  att : ∀ x ∈ M, SliceOf 2 atC w x.av x.t.attrs
  is : M.map (·.t) = joinGo [] ((L.map (·.t)).take k)
  len : M.length ≤ k
  txt : ∀ x ∈ M, x.t.text.length ≤ tksW ((L.map (·.t)).take k)
  below : Below w.heap.size w wr

theorem take_map {L : List TkM} {k : Nat} (hk : k < L.length) : (L.map (·.t)).take (k + 1) = (L.map (·.t)).take k ++ [L[k].t] := by
  rw [List.take_succ_eq_append_getElem (by simpa using hk)]; simp
theorem JoinAt.skip {w wr w' : World} {L : List TkM} {k : Nat} {ov : Value} {M : List TkM} (h : JoinAt w wr L k ov M) (hk : k < L.length) (hs : L[k].t.kind = 4 ∧ L[k].t.text = []) (hb : Below wr.heap.size wr w') : JoinAt w w' L (k + 1) ov M := by
  refine ⟨h.own.below hb, h.att, ?_, by have := h.len; omega, fun x hx => ?_, h.below.trans (hb.mono h.below.size)⟩
  · rw [take_map hk, joinGo_snoc, ← h.is]; unfold joinStep; rw [if_pos hs]
  · have h1 := h.txt x hx
    have h2 := tksW_snoc (l := L.map (·.t)) (k := k) (by simpa using hk)
    omega
theorem JoinAt.push {w wr w' : World} {L : List TkM} {k : Nat} {ov ov' : Value} {M : List TkM} (h : JoinAt w wr L k ov M) (hk : k < L.length) (hA : SliceOf 2 atC w L[k].av L[k].t.attrs) (hs : ¬ (L[k].t.kind = 4 ∧ L[k].t.text = [])) (hn : ∀ u, M.getLast? = some u → ¬ (L[k].t.kind = 4 ∧ u.t.kind = 4))
    (ho : Owns w.heap.size 34 7 tkC w' ov' (M ++ [L[k]])) (hb : Below w.heap.size w w') : JoinAt w w' L (k + 1) ov' (M ++ [L[k]]) := by
  have h2 := tksW_snoc (l := L.map (·.t)) (k := k) (by simpa using hk)
  rw [List.getElem_map] at h2
  refine ⟨ho, fun x hx => ?_, ?_, by have := h.len; simp; omega, fun x hx => ?_, hb⟩
  · rcases List.mem_append.1 hx with hx | hx
    · exact h.att x hx
    · simp at hx; subst hx; exact hA
  · rw [take_map hk, joinGo_snoc, ← h.is]; unfold joinStep; rw [if_neg hs, List.map_append]
    rw [List.getLast?_map]
    cases hu : M.getLast? with
    | none => rfl
    | some u => simp only [Option.map_some]; rw [if_neg (hn u hu)]; rfl
  · rcases List.mem_append.1 hx with hx | hx
    · have h1 := h.txt x hx; omega
    · simp at hx; subst hx; unfold tkW at h2; omega
theorem JoinAt.join {w wr w' : World} {L : List TkM} {k m : Nat} {ov : Value} {M : List TkM} (h : JoinAt w wr L k ov M) (hk : k < L.length) (hm : M.length = m + 1) (hk4 : L[k].t.kind = 4) (hne : L[k].t.text ≠ []) (hu4 : (M[m]'(by omega)).t.kind = 4)
    (ho : Owns w.heap.size 34 7 tkC w' ov (M.set m { M[m]'(by omega) with t := { (M[m]'(by omega)).t with text := (M[m]'(by omega)).t.text ++ L[k].t.text } })) (hb : Below w.heap.size w w') :
    JoinAt w w' L (k + 1) ov (M.set m { M[m]'(by omega) with t := { (M[m]'(by omega)).t with text := (M[m]'(by omega)).t.text ++ L[k].t.text } }) := by
  have h2 := tksW_snoc (l := L.map (·.t)) (k := k) (by simpa using hk)
  rw [List.getElem_map] at h2
  have hlt : m < M.length := by omega
  have hmem : M[m] ∈ M := List.getElem_mem hlt
  have hset : ∀ y, M.set m y = M.dropLast ++ [y] := fun y => by
    have e1 : M = M.dropLast ++ [M[m]] := by
      have hne : M ≠ [] := fun e => by rw [e] at hm; cases hm
      have : M.getLast hne = M[m] := by rw [List.getLast_eq_getElem]; congr 1; omega
      rw [← this]; exact (List.dropLast_concat_getLast hne).symm
    conv => lhs; rw [e1]
    rw [List.set_append_right _ _ (by rw [List.length_dropLast]; omega), List.length_dropLast]
    rw [show m - (M.length - 1) = 0 by omega]; rfl
  refine ⟨ho, fun x hx => ?_, ?_, by have := h.len; rw [List.length_set]; omega, fun x hx => ?_, hb⟩
  · rw [hset] at hx
    rcases List.mem_append.1 hx with hx | hx
    · exact h.att x (List.dropLast_subset _ hx)
    · simp at hx; subst hx; exact (h.att M[m] hmem : _)
  · have hl : M.getLast? = some M[m] := by
      rw [List.getLast?_eq_getElem?, hm, Nat.add_sub_cancel, List.getElem?_eq_getElem hlt]
    rw [take_map hk, joinGo_snoc, ← h.is]; unfold joinStep
    rw [if_neg (fun e => hne e.2), List.getLast?_map, hl]
    simp only [Option.map_some]
    rw [if_pos ⟨hk4, hu4⟩, hset, List.map_append, List.map_dropLast]; rfl
  · rw [hset] at hx
    rcases List.mem_append.1 hx with hx | hx
    · have h1 := h.txt x (List.dropLast_subset _ hx); omega
    · simp at hx; subst hx
      have h1 := h.txt _ hmem
      simp only [List.length_append]
      unfold tkW at h2; omega

end Go.Proofs.Ytpchljiiappmnaa
