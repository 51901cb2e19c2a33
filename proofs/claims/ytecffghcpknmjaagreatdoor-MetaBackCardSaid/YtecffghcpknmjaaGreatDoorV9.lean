/- What the document's Parts keeps in memory: its row of parts, the flags beside it, the part that it fills; its digit and lower; the conditions stand in the theorems. -/
import Derived.Test.YtecffghcpknmjaaGreatDoorV8
import Derived.Test.YtecffghcpknmjaaGreatDoorL11

namespace Go.Proofs.YtecffghcpknmjaaGreatDoor
open Go Go.RowKit

theorem refDigit_any (c : UInt8) (w : World) : Calls Tryz.prog 66 #[.int .u8 c.toNat] w fun e w' => e = .returned (.bool (cDigit c)) ∧ w = w' := by
  go_enter Tryz.func66, Tryz.ntmps66
  go_wp2
  all_goals (go_ret; exact ⟨ret_bool (by rw [Bool.eq_iff_iff]; simp [cDigit]; omega), rfl⟩)
theorem refLower_any (c : UInt8) (w : World) : Calls Tryz.prog 67 #[.int .u8 c.toNat] w fun e w' => e = .returned (.int .u8 ((lowV c).toNat : Nat)) ∧ w = w' := by
  by_cases h : 65 ≤ c.toNat ∧ c.toNat ≤ 90
  · have d1 : decide ((65 : Int) ≤ (c.toNat : Int)) = true := decide_eq_true (by omega)
    have d2 : decide ((c.toNat : Int) ≤ (90 : Int)) = true := decide_eq_true (by omega)
    have hw : IntKind.u8.wrap ((c.toNat : Int) + 32) = (c.toNat : Int) + 32 := by unfold IntKind.wrap; simp [IntKind.bits, IntKind.signed]; omega
    have hv : (((lowV c).toNat : Nat) : Int) = (c.toNat : Int) + 32 := by rw [lowV_nat h]; omega
    rw [hv]
    go_enter Tryz.func67, Tryz.ntmps67
    go_wp2
    go_ret
    exact ⟨rfl, rfl⟩
  · rw [lowV_no h]
    by_cases h1 : 65 ≤ c.toNat
    · have d1 : decide ((65 : Int) ≤ (c.toNat : Int)) = true := decide_eq_true (by omega)
      have d2 : decide ((c.toNat : Int) ≤ (90 : Int)) = false := decide_eq_false (by omega)
      go_enter Tryz.func67, Tryz.ntmps67
      go_wp2
      go_ret
      exact ⟨rfl, rfl⟩
    · have d1 : decide ((65 : Int) ≤ (c.toNat : Int)) = false := decide_eq_false (by omega)
      go_enter Tryz.func67, Tryz.ntmps67
      go_wp2
      go_ret
      exact ⟨rfl, rfl⟩
/-! Small letters: what is no letter stays. -/
theorem lowV_cases (c : UInt8) : (lowV c = c ∧ ¬ (65 ≤ c.toNat ∧ c.toNat ≤ 90)) ∨ ((lowV c).toNat = c.toNat + 32 ∧ 65 ≤ c.toNat ∧ c.toNat ≤ 90) := by
  by_cases h : 65 ≤ c.toNat ∧ c.toNat ≤ 90
  · exact .inr ⟨lowV_nat h, h⟩
  · exact .inl ⟨lowV_no h, h⟩
theorem markV_low (c : UInt8) : markV (lowV c) = markV c := by
  rcases lowV_cases c with ⟨h, -⟩ | ⟨h, h1, h2⟩
  · rw [h]
  · unfold markV; rw [h, Bool.eq_iff_iff]; simp; omega
theorem cDigit_low (c : UInt8) : cDigit (lowV c) = cDigit c := by
  rcases lowV_cases c with ⟨h, -⟩ | ⟨h, h1, h2⟩
  · rw [h]
  · unfold cDigit; rw [h, Bool.eq_iff_iff]; simp; omega
theorem low45 (c : UInt8) : ((lowV c).toNat == 45) = (c.toNat == 45) := by
  rcases lowV_cases c with ⟨h, -⟩ | ⟨h, h1, h2⟩
  · rw [h]
  · rw [h, Bool.eq_iff_iff]; simp; omega
theorem low_get (s : S) (k : Nat) (hk : k < s.size) : (s.data.toList.map lowV)[k]'(by rw [List.length_map, size_data]; exact hk) = lowV s[k] := by rw [List.getElem_map]; rfl
def cntD (t : Bs) : Nat := t.countP cDigit
theorem cntD_le (t : Bs) : cntD t ≤ t.length := List.countP_le_length
theorem cntD_lt (t : Bs) : decide (cntD t < t.length) = !isNum t := by
  have h1 := cntD_le t
  have h2 : cntD t = t.length ↔ isNum t = true := by
    unfold cntD isNum
    rw [List.countP_eq_length, List.all_eq_true]
  cases hn : isNum t with
  | true => rw [h2.2 hn]; simp
  | false =>
    have : cntD t ≠ t.length := fun e => by rw [h2.1 e] at hn; cases hn
    simp; omega
theorem cntD_add (t : Bs) (c : UInt8) : cntD (t ++ [c]) = cntD t + if cDigit c = true then 1 else 0 := by
  unfold cntD
  rw [List.countP_append, List.countP_singleton]
/-! The row of parts, the flags beside it, the part that is filled. -/
def rawP (p : Pc) : PartV := ⟨p.hyphen, isNum p.text, p.text⟩
def docC (p : PartV) : List Value := [.bool (!p.number), .bool p.hyphen, .string (bs p.text)]
theorem docC_len (p : PartV) : (docC p).length = 3 := rfl
theorem docC_one (p : PartV) : ∀ u ∈ docC p, u.oneCell' = true := by simp [docC, Value.oneCell']
theorem docC_ones (p : PartV) : ∀ y ∈ [p], ∀ u ∈ docC y, u.oneCell' = true := by
  intro y hy
  obtain rfl := List.mem_singleton.1 hy
  exact docC_one y
def boolC (b : Bool) : List Value := [.bool b]
theorem boolC_len (b : Bool) : (boolC b).length = 1 := rfl
theorem boolC_ones (b : Bool) : ∀ y ∈ [b], ∀ u ∈ boolC y, u.oneCell' = true := by
  intro y hy
  obtain rfl := List.mem_singleton.1 hy
  simp [boolC, Value.oneCell']
theorem info_dp : (Tryz.prog.info? 87).map (fun i => (i.zero, i.size, i.bytes)) = some (some (.agg #[.bool false, .bool false, .string ⟨#[]⟩]), 3, 24) := by kernel_rfl
theorem info_bl : (Tryz.prog.info? 4).map (fun i => (i.zero, i.size, i.bytes)) = some (some (.bool false), 1, 1) := by kernel_rfl
structure DocAt (b : Nat) (w wr : World) (vl vn : Value) (Ls : List PartV) (Ns : List Bool) (cs : List Value) : Prop where
  base : w.heap.size = b
  below : Below b w wr
  box : Box wr (b + 1) cs
  l : Owns (b + 2) 87 3 docC wr vl Ls
  n : Owns b 4 1 boolC wr vn Ns
  sn : ∀ j, vn.ownBlock = some j → j ≠ b + 1
  ln : ∀ j, vl.ownBlock = some j → vn.ownBlock ≠ some j
theorem DocAt.size {b : Nat} {w wr : World} {vl vn : Value} {Ls : List PartV} {Ns : List Bool} {cs : List Value} (h : DocAt b w wr vl vn Ls Ns cs) : b + 2 ≤ wr.heap.size := h.box.lt
theorem DocAt.sl {b : Nat} {w wr : World} {vl vn : Value} {Ls : List PartV} {Ns : List Bool} {cs : List Value} (h : DocAt b w wr vl vn Ls Ns cs) (j : Nat) (hj : vl.ownBlock = some j) : j ≠ b + 1 := by have := (h.l.lt j hj).1; omega
theorem own_ne {v : Value} {r : Nat} (h : ∀ j, v.ownBlock = some j → j ≠ r) : v.ownBlock = none ∨ v.ownBlock ≠ some r := by
  cases hv : v.ownBlock with
  | none => exact .inl rfl
  | some j => exact .inr fun e => h j hv (by cases e; rfl)
theorem own_apart {v u : Value} (h : ∀ j, v.ownBlock = some j → u.ownBlock ≠ some j) : u.ownBlock = none ∨ u.ownBlock ≠ v.ownBlock := by
  cases hv : v.ownBlock with
  | none =>
    cases hu : u.ownBlock with
    | none => exact .inl rfl
    | some j => exact .inr (by simp)
  | some j => exact .inr (h j hv)
theorem own_apart2 {v u : Value} (h : ∀ j, v.ownBlock = some j → u.ownBlock ≠ some j) : v.ownBlock = none ∨ v.ownBlock ≠ u.ownBlock := by
  cases hv : v.ownBlock with
  | none => exact .inl rfl
  | some j => exact .inr fun e => h j hv e.symm
theorem DocAt.boxed {b : Nat} {w wr W : World} {vl vn : Value} {Ls : List PartV} {Ns : List Bool} {cs cs' : List Value} (h : DocAt b w wr vl vn Ls Ns cs) (hB : Box W (b + 1) cs') (hg : wr.grownBy W (some (b + 1))) : DocAt b w W vl vn Ls Ns cs' :=
  have hs := h.size
  ⟨h.base, h.below.trans (below_row hg (by omega) (by omega)), hB, h.l.kept hg (own_ne h.sl), h.n.kept hg (own_ne h.sn), h.sn, h.ln⟩
theorem DocAt.later {b : Nat} {w wr W : World} {vl vn : Value} {Ls : List PartV} {Ns : List Bool} {cs : List Value} (h : DocAt b w wr vl vn Ls Ns cs) (hb : Below wr.heap.size wr W) : DocAt b w W vl vn Ls Ns cs :=
  have hs := h.size
  ⟨h.base, h.below.trans (hb.mono (by omega)), h.box.below hb h.box.lt, h.l.below hb, h.n.below hb, h.sn, h.ln⟩
theorem DocAt.putL {b : Nat} {w wr W : World} {vl vn v' : Value} {Ls Ls' : List PartV} {Ns : List Bool} {cs : List Value} (h : DocAt b w wr vl vn Ls Ns cs) (hO : Owns (b + 2) 87 3 docC W v' Ls') (hg : wr.grownBy W vl.ownBlock)
    (hl : v'.ownBlock = vl.ownBlock ∨ v'.ownBlock = some wr.heap.size) : DocAt b w W v' vn Ls' Ns cs :=
  have hs := h.size
  ⟨h.base, h.below.grown hg (by omega) (fun j hj => by have := (h.l.lt j hj).1; omega), h.box.grown hg (fun e => h.sl (b + 1) e.symm rfl), hO, h.n.kept hg (own_apart h.ln), h.sn, fun j hj hn => by
    rcases hl with e | e
    · exact h.ln j (e ▸ hj) hn
    · rw [e] at hj; cases hj; have := (h.n.lt _ hn).2; omega⟩
theorem DocAt.putN {b : Nat} {w wr W : World} {vl vn v' : Value} {Ls : List PartV} {Ns Ns' : List Bool} {cs : List Value} (h : DocAt b w wr vl vn Ls Ns cs) (hO : Owns b 4 1 boolC W v' Ns') (hg : wr.grownBy W vn.ownBlock)
    (hl : v'.ownBlock = vn.ownBlock ∨ v'.ownBlock = some wr.heap.size) : DocAt b w W vl v' Ls Ns' cs :=
  have hs := h.size
  ⟨h.base, h.below.grown hg (by omega) (fun j hj => (h.n.lt j hj).1), h.box.grown hg (fun e => h.sn (b + 1) e.symm rfl), h.l.kept hg (own_apart2 h.ln), hO, fun j hj => by
    rcases hl with e | e
    · exact h.sn j (e ▸ hj)
    · rw [e] at hj; cases hj; omega, fun j hj hn => by
    rcases hl with e | e
    · exact h.ln j hj (e ▸ hn)
    · rw [e] at hn; cases hn; have := (h.l.lt _ hj).2; omega⟩
/-- A store into one cell of a part. -/
theorem DocAt.setL {b : Nat} {w wr : World} {lo : Option Addr} {len lc : Nat} {vn : Value} {Ls : List PartV} {Ns : List Bool} {cs : List Value} {k j : Nat} {x : PartV} (h : DocAt b w wr (.slice lo len lc) vn Ls Ns cs) (hk : Ls[k]? = some x) (hj : j < 3) :
    ∃ g, lo = some ⟨g, 0, none⟩ ∧ g < wr.heap.size ∧ wr.frozen? ⟨g, k * 3 + j, none⟩ = false ∧ (∀ i u, (docC x)[i]? = some u → wr.cell? ⟨g, k * 3 + i, none⟩ = some u) ∧
      ∀ u x', docC x' = (docC x).set j u → DocAt b w (wr.setCell ⟨g, k * 3 + j, none⟩ u) (.slice lo len lc) vn (Ls.set k x') Ns cs := by
  obtain ⟨g, rfl, h1, h2, h3, h4, h5, h6⟩ := own_store docC_len h.l hk hj
  exact ⟨g, rfl, h2, h4, h5, fun u x' hx => h.putL (h6 u x' hx) (setCell_grown _ _ _ _) (.inl rfl)⟩
/-! The second pass. -/
def midL (L : List Pc) (k : Nat) : List PartV := (L.take k).map partV ++ (L.drop k).map rawP
theorem midL_zero (L : List Pc) : midL L 0 = L.map rawP := by simp [midL]
theorem midL_all (L : List Pc) : midL L L.length = L.map partV := by simp [midL]
theorem midL_len (L : List Pc) (k : Nat) : (midL L k).length = L.length := by simp [midL]; omega
theorem midL_at {L : List Pc} {k : Nat} (hk : k < L.length) : (midL L k)[k]? = some (rawP L[k]) := by
  unfold midL
  rw [List.getElem?_append_right (by rw [List.length_map, List.length_take]; omega), List.length_map, List.length_take, Nat.min_eq_left (by omega), Nat.sub_self, List.drop_eq_getElem_cons hk]
  rfl
theorem midL_set {L : List Pc} {k : Nat} (hk : k < L.length) : (midL L k).set k (partV L[k]) = midL L (k + 1) := by
  unfold midL
  have e1 : (L.take (k + 1)).map partV = (L.take k).map partV ++ [partV L[k]] := by rw [List.take_add_one, List.getElem?_eq_getElem hk, List.map_append]; rfl
  have e2 : (L.drop k).map rawP = rawP L[k] :: (L.drop (k + 1)).map rawP := by rw [List.drop_eq_getElem_cons hk]; rfl
  rw [List.set_append, if_neg (by rw [List.length_map, List.length_take]; omega), List.length_map, List.length_take, Nat.min_eq_left (by omega), Nat.sub_self, e1, e2, List.set_cons_zero, List.append_assoc]
  rfl
theorem noNull_step (x : S) (h : 0 < x.size) (hc : x[0].toNat = 48) : noNull x.data.toList = noNull (x.extract 1 x.size).data.toList := by
  rw [head_byte x h]
  unfold noNull
  rw [List.dropWhile_cons, if_pos (by simp [hc])]
theorem noNull_stop (x : S) (h : 0 < x.size) (hc : x[0].toNat ≠ 48) : noNull x.data.toList = x.data.toList := by
  rw [head_byte x h]
  unfold noNull
  rw [List.dropWhile_cons, if_neg (by simp [hc])]
theorem noNull_nil (x : S) (h : x.size = 0) : noNull x.data.toList = x.data.toList := by
  have : x.data.toList = [] := List.eq_nil_of_length_eq_zero (by rw [size_data]; exact h)
  rw [this]; rfl

end Go.Proofs.YtecffghcpknmjaaGreatDoor
