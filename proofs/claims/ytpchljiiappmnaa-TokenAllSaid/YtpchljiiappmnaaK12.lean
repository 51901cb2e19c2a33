/- The program's reader in memory; walks of its small methods; the conditions stand in the theorems. -/
import Derived.Test.YtpchljiiappmnaaK11
namespace Go.Proofs.Ytpchljiiappmnaa
open Go Go.RowKit

theorem wp_world {P : Program} {c : Code} {Q : Exit → Act → World → Prop} {a : Act} {w : World} (h : ∀ W, W = w → c.wp P Q a W) : c.wp P Q a w := h w rfl
theorem Calls.world {P : Program} {f : FuncId} {args : Array Value} {w : World} {R : Ending → World → Prop} (h : ∀ W, W = w → Calls P f args W R) : Calls P f args w R := h w rfl

/-- How many bytes of a text are ahead of what is left. -/
def pos (s : S) (l : Bs) : Nat := s.size - l.length
theorem pos_add {s : S} {l : Bs} (h : l <:+ s.data.toList) : pos s l + l.length = s.size := by
  have := h.length_le
  rw [size_data] at this
  unfold pos; omega
theorem pos_drop {s : S} {l : Bs} (h : l <:+ s.data.toList) : s.data.toList.drop (pos s l) = l := by
  have := List.suffix_iff_eq_drop.1 h
  rw [size_data] at this
  exact this.symm
theorem pos_extract {s : S} {l : Bs} (h : l <:+ s.data.toList) : s.extract (pos s l) s.size = bs l := by
  rw [Lib.extract_eq, pos_drop h]
  unfold bs
  rw [List.take_of_length_le (by have := pos_add h; omega)]
theorem pos_get {s : S} {l : Bs} {c : UInt8} (h : c :: l <:+ s.data.toList) (hk : pos s (c :: l) < s.size) : s[pos s (c :: l)] = c := by
  have h1 := drop_byte s _ hk
  rw [pos_drop h] at h1
  exact (List.cons.inj h1).1.symm
theorem pos_lt {s : S} {l : Bs} {c : UInt8} (h : c :: l <:+ s.data.toList) : pos s (c :: l) < s.size := by
  have := pos_add h
  simp only [List.length_cons] at this; omega
theorem pos_cons {s : S} {l : Bs} {c : UInt8} (h : c :: l <:+ s.data.toList) : pos s l = pos s (c :: l) + 1 := by
  have := pos_add h; have := pos_add (suf_tail h)
  simp only [List.length_cons] at *; omega
theorem pos_suf {s : S} {l r : Bs} (h : l <:+ s.data.toList) (hr : r <:+ l) : pos s r + r.length = pos s l + l.length := by
  rw [pos_add h, pos_add (hr.trans h)]
theorem pos_nil (s : S) : pos s [] = s.size := by unfold pos; simp

/-- The program's reader: the text, how far it was gone through, what was made. -/
structure Rd (w : World) (b : Nat) (s : S) (l : Bs) (ov : Value) : Prop where
  box : Box w b [.string s, .int .i64 (pos s l : Nat), ov]
  suf : l <:+ s.data.toList

theorem Box.grownB {w w' : World} {b : Nat} {cs : List Value} {r : Nat} (h : Box w b cs) (hg : w.grownBy w' (some r)) (hne : b ≠ r) : Box w' b cs := h.grown hg (by simpa using hne)
theorem Rd.c0 {w : World} {b : Nat} {s : S} {l : Bs} {ov : Value} (h : Rd w b s l ov) : w.cell? ⟨b, 0, none⟩ = some (.string s) := h.box.cell 0 _ rfl
theorem Rd.c1 {w : World} {b : Nat} {s : S} {l : Bs} {ov : Value} (h : Rd w b s l ov) : w.cell? ⟨b, 1, none⟩ = some (.int .i64 (pos s l : Nat)) := h.box.cell 1 _ rfl
theorem Rd.c2 {w : World} {b : Nat} {s : S} {l : Bs} {ov : Value} (h : Rd w b s l ov) : w.cell? ⟨b, 2, none⟩ = some ov := h.box.cell 2 _ rfl
theorem Rd.f1 {w : World} {b : Nat} {s : S} {l : Bs} {ov : Value} (h : Rd w b s l ov) : w.frozen? ⟨b, 1, none⟩ = false := h.box.free 1
theorem Rd.below {w w' : World} {b : Nat} {s : S} {l : Bs} {ov : Value} (h : Rd w b s l ov) (hb : Below w.heap.size w w') : Rd w' b s l ov := ⟨h.box.below hb h.box.lt, h.suf⟩
theorem Rd.drewN {w : World} {b : Nat} {s : S} {l : Bs} {ov : Value} (h : Rd w b s l ov) (n : Nat) : Rd (w.drewN n) b s l ov := ⟨h.box.drewN n, h.suf⟩

/-- The post of a function that reads alone: it may have drawn. -/
def Qt (v : Value) (w : World) (e : Ending) (w' : World) : Prop := e = .returned v ∧ ∃ n, w' = w.drewN n
theorem Qt.quiet {P : Program} {f : FuncId} {args : Array Value} {w : World} {n : Nat} {v : Value} (h : Calls P f args (w.drewN n) (Qt v (w.drewN n))) : Calls P f args (w.drewN n) fun e w'' => e = .returned v ∧ ∃ m, w'' = w.drewN m := Calls.quiet_of h

set_option maxHeartbeats 1000000 in
theorem rest_any (b : Nat) (s : S) (l : Bs) (ov : Value) (w : World) (h : Rd w b s l ov) :
    Calls Try.prog 114 #[.pointer (some ⟨b, 0, none⟩)] w (Qt (.string (bs l)) w) := by
  have c0 := h.c0
  have c1 := h.c1
  have hp := pos_add h.suf
  have HE := Lib.hid (pos_extract h.suf)
  have h1 : pos s l ≤ s.size := by omega
  clear h
  generalize pos s l = p at *
  have h2 : (p : Int) ≤ (s.size : Int) := by omega
  go_enter Try.func114, Try.ntmps114
  go_wp2
  go_quiet (fail)
  go_wp2
  go_ret
  exact ⟨by rw [HE.out]; rfl, ⟨_, rfl⟩⟩

set_option maxHeartbeats 1000000 in
theorem ends_any (b : Nat) (s : S) (l : Bs) (ov : Value) (w : World) (h : Rd w b s l ov) :
    Calls Try.prog 53 #[.pointer (some ⟨b, 0, none⟩)] w (Qt (.bool l.isEmpty) w) := by
  have c0 := h.c0
  have c1 := h.c1
  have hp := pos_add h.suf
  clear h
  generalize pos s l = p at *
  go_enter Try.func53, Try.ntmps53
  go_wp2
  go_quiet (fail)
  go_wp2
  go_ret
  refine ⟨ret_bool ?_, ⟨_, rfl⟩⟩
  cases l with
  | nil => simp at hp ⊢; omega
  | cons c l => simp at hp ⊢; omega

set_option maxHeartbeats 1000000 in
theorem has_pre (b : Nat) (s : S) (l : Bs) (ov : Value) (t : S) (w : World) (h : Rd w b s l ov) :
    Calls Try.prog 78 #[.pointer (some ⟨b, 0, none⟩), .string t] w (Qt (.bool (t.data.toList.isPrefixOf l)) w) := by
  have HP := Lib.hid (fun w => hasPrefix_any (bs l) t w)
  rw [bs_data] at HP
  go_enter Try.func78, Try.ntmps78
  go_wp2_with fail
  refine (rest_any b s l ov w h).mono ?_
  rintro e w' ⟨rfl, n, rfl⟩
  generalize bs l = u at *
  go_wp2_with fail
  refine (HP.out _).mono ?_
  rintro e w' ⟨rfl, rfl⟩
  go_wp2
  go_ret
  exact ⟨rfl, ⟨_, rfl⟩⟩

/-- What goes wrong, as a panic. -/
def faultV (e : Int) (n : Nat) : Value := .iface 71 (.agg #[.int .i64 e, .int .i64 n])
/-- The post of a function that panics; only the reader's place may have turned. -/
def Panics (e : Int) (n : Nat) (b : Nat) (w : World) (x : Ending) (w' : World) : Prop := x = .panicked [{ v := faultV e n, recovered := false }] ∧ w.grownBy w' (some b)

theorem fail_any (e : Int) (n : Nat) (w : World) :
    Calls Try.prog 116 #[.int .i64 e, .int .i64 n] w fun x w' => x = .panicked [{ v := faultV e n, recovered := false }] ∧ w = w' := by
  go_enter Try.func116, Try.ntmps116
  go_wp2
  exact ⟨rfl, rfl, rfl⟩

theorem grownN (w : World) (n : Nat) (row : Option Nat) : w.grownBy (w.drewN n) row := ⟨rfl, rfl, rfl, Nat.le_refl _, fun _ _ _ => rfl⟩
theorem grownOf {w w' : World} (h : Below w.heap.size w w') (row : Option Nat) : w.grownBy w' row := ⟨h.os, h.tape, h.output, h.size, fun k hk _ => h.block k hk⟩

theorem Box.set {w : World} {b : Nat} {cs : List Value} (h : Box w b cs) (j : Nat) (u : Value) : Box (w.setCell ⟨b, j, none⟩ u) b (cs.set j u) := by
  refine ⟨by simpa [World.setCell] using h.lt, fun i v hv => ?_, fun i => ?_⟩
  · rw [List.getElem?_set] at hv
    split at hv
    · rename_i hij
      subst hij
      split at hv
      · rename_i hlt
        cases hv
        have h1 := h.cell j cs[j] (by simp [hlt])
        exact World.cell?_setCell_same w _ _ h1
      · cases hv
    · rename_i hij
      rw [World.cell?_setCell_other w _ _ _ (by simp)]
      exact h.cell i v hv
  · have := h.free i
    simpa [World.frozen?_setCell] using this

theorem Rd.move {w : World} {b : Nat} {s : S} {l : Bs} {ov : Value} (h : Rd w b s l ov) {r : Bs} {v : Value} (hr : r <:+ s.data.toList) (hv : v = .int .i64 (pos s r : Nat)) : Rd (w.setCell ⟨b, 1, none⟩ v) b s r ov := by
  subst hv
  exact ⟨h.box.set 1 _, hr⟩

end Go.Proofs.Ytpchljiiappmnaa
