/- The document's reader in memory; walks of its fail, at, begins, end; the conditions stand in the theorems. -/
import Derived.Test.YtpchljiiappmnaaK13
import Derived.Test.YtpchljiiappmnaaK10
namespace Go.Proofs.Ytpchljiiappmnaa
open Go Go.RowKit

/-- The document's reader: the text, what is left of it, what went wrong and where. -/
structure RR (w : World) (b : Nat) (s : S) (l : Bs) (x o : Int) : Prop where
  box : Box w b [.string s, .int .i64 (pos s l : Nat), .int .i64 x, .int .i64 o]
  suf : l <:+ s.data.toList
theorem RR.c0 {w : World} {b : Nat} {s : S} {l : Bs} {x o : Int} (h : RR w b s l x o) : w.cell? ⟨b, 0, none⟩ = some (.string s) := h.box.cell 0 _ rfl
theorem RR.c1 {w : World} {b : Nat} {s : S} {l : Bs} {x o : Int} (h : RR w b s l x o) : w.cell? ⟨b, 1, none⟩ = some (.int .i64 (pos s l : Nat)) := h.box.cell 1 _ rfl
theorem RR.c2 {w : World} {b : Nat} {s : S} {l : Bs} {x o : Int} (h : RR w b s l x o) : w.cell? ⟨b, 2, none⟩ = some (.int .i64 x) := h.box.cell 2 _ rfl
theorem RR.c3 {w : World} {b : Nat} {s : S} {l : Bs} {x o : Int} (h : RR w b s l x o) : w.cell? ⟨b, 3, none⟩ = some (.int .i64 o) := h.box.cell 3 _ rfl
theorem RR.below {w w' : World} {b : Nat} {s : S} {l : Bs} {x o : Int} (h : RR w b s l x o) (hb : Below w.heap.size w w') : RR w' b s l x o := ⟨h.box.below hb h.box.lt, h.suf⟩
theorem RR.belowB {w w' : World} {b B : Nat} {s : S} {l : Bs} {x o : Int} (h : RR w b s l x o) (hb : Below B w w') (hlt : b < B) : RR w' b s l x o := ⟨h.box.below hb hlt, h.suf⟩
theorem RR.drewN {w : World} {b : Nat} {s : S} {l : Bs} {x o : Int} (h : RR w b s l x o) (n : Nat) : RR (w.drewN n) b s l x o := ⟨h.box.drewN n, h.suf⟩
theorem RR.place {w : World} {b : Nat} {s : S} {l : Bs} {x o : Int} (h : RR w b s l x o) : placeOf w b = pos s l := by unfold placeOf; rw [h.c1]
theorem RR.move {w : World} {b : Nat} {s : S} {l : Bs} {x o : Int} (h : RR w b s l x o) {r : Bs} {v : Value} (hr : r <:+ s.data.toList) (hv : v = .int .i64 (pos s r : Nat)) : RR (w.setCell ⟨b, 1, none⟩ v) b s r x o := by
  subst hv
  exact ⟨h.box.set 1 _, hr⟩
theorem RR.bad {w : World} {b : Nat} {s : S} {l : Bs} {x o : Int} (h : RR w b s l x o) (x' o' : Int) : RR ((w.setCell ⟨b, 2, none⟩ (.int .i64 x')).setCell ⟨b, 3, none⟩ (.int .i64 o')) b s l x' o' :=
  ⟨(h.box.set 2 _).set 3 _, h.suf⟩

/-- The post of one of its methods: a value, what is left, what is wrong. -/
structure RGo (v : Value) (b : Nat) (s : S) (r : Bs) (x o : Int) (w : World) (e : Ending) (w' : World) : Prop where
  ret : e = .returned v
  rr : RR w' b s r x o
  grown : w.grownBy w' (some b)

set_option maxHeartbeats 1000000 in
theorem rfail_no (b : Nat) (s : S) (l : Bs) (x o x' o' : Int) (w : World) (h : RR w b s l x o) (hx : x ≠ 0) :
    Calls Try.prog 120 #[.pointer (some ⟨b, 0, none⟩), .int .i64 x', .int .i64 o'] w fun e w' => e = .returned (.tuple #[]) ∧ w = w' := by
  have c2 := h.c2
  have hlt := h.box.lt
  have e0 : (x == 0) = false := beq_eq_false_iff_ne.2 hx
  clear h hx
  go_enter Try.func120, Try.ntmps120
  go_wp2
  go_end0
  exact ⟨rfl, rfl⟩
set_option maxHeartbeats 1000000 in
theorem rfail_go (b : Nat) (s : S) (l : Bs) (o x' o' : Int) (w : World) (h : RR w b s l 0 o) :
    Calls Try.prog 120 #[.pointer (some ⟨b, 0, none⟩), .int .i64 x', .int .i64 o'] w (RGo (.tuple #[]) b s l x' o' w) := by
  have c2 := h.c2
  have c3 := h.c3
  have f2 := h.box.free 2
  have f3 := h.box.free 3
  have hlt := h.box.lt
  have HR := Lib.hid (h.bad x' o')
  clear h
  go_enter Try.func120, Try.ntmps120
  go_wp2
  go_end0
  exact ⟨rfl, HR.out, (setCell_grown w b 2 _).trans (setCell_grown _ b 3 _)⟩

/-- The byte with so many between; 0: there is none. -/
def atV (l : Bs) (k : Nat) : UInt8 := l[k]?.getD 0
set_option maxRecDepth 100000 in
set_option maxHeartbeats 1000000 in
theorem rat_any (b : Nat) (s : S) (l : Bs) (x o : Int) (k : Nat) (w : World) (h : RR w b s l x o) (hs : s.size ≤ 1000000) (hk : k ≤ 5) :
    Calls Try.prog 89 #[.pointer (some ⟨b, 0, none⟩), .int .i64 k] w (Qt (.int .u8 (atV l k).toNat) w) := by
  have c0 := h.c0
  have c1 := h.c1
  have hp := pos_add h.suf
  have hd := pos_drop h.suf
  have hlt := h.box.lt
  have HV : Hid (∀ hh : pos s l + k < s.size, atV l k = s[pos s l + k]) := fun hh => by
    unfold atV
    have h1 : l[k]? = some s[pos s l + k] := by
      have h2 := congrArg (fun z : Bs => z[k]?) hd
      simp only [List.getElem?_drop] at h2
      rw [← h2, List.getElem?_eq_getElem (by rw [size_data]; exact hh)]
      rfl
    rw [h1]; rfl
  have HV0 : Hid (¬ pos s l + k < s.size → atV l k = 0) := fun hh => by
    unfold atV
    rw [List.getElem?_eq_none (by omega)]; rfl
  clear h hd
  generalize pos s l = p at *
  by_cases hpk : p + k < s.size
  · have hi : (p : Int) + (k : Int) < (s.size : Int) := by omega
    have hi2 : ¬ (s.size : Int) ≤ (p : Int) + (k : Int) := by omega
    have HVV := Lib.hid (HV.out hpk)
    clear HV HV0
    obtain ⟨q, hq⟩ : ∃ q, q = p + k := ⟨_, rfl⟩
    have wq : IntKind.i64.wrap ((p : Int) + (k : Int)) = (q : Int) := by rw [IntWalk.i64_in _ (by omega)]; omega
    have hqs : q < s.size := by omega
    have hqi : (q : Int) < (s.size : Int) := by omega
    have hqd : decide (s.size ≤ q) = false := by rw [decide_eq_false_iff_not]; omega
    have HV2 : Hid (atV l k = s[q]) := by subst hq; exact HVV.out
    clear hq HVV
    go_enter Try.func89, Try.ntmps89
    go_wp2
    go_quiet (fail)
    go_wp2
    go_quiet (fail)
    go_wp2
    go_ret
    exact ⟨by rw [HV2.out]; rfl, _, World.drewN_drewN _ _ _⟩
  · have HVV := Lib.hid (HV0.out hpk)
    clear HV HV0
    obtain ⟨q, hq⟩ : ∃ q, q = p + k := ⟨_, rfl⟩
    have wq : IntKind.i64.wrap ((p : Int) + (k : Int)) = (q : Int) := by rw [IntWalk.i64_in _ (by omega)]; omega
    have hqd : decide (s.size ≤ q) = true := by rw [decide_eq_true_iff]; omega
    clear hq
    go_enter Try.func89, Try.ntmps89
    go_wp2
    go_quiet (fail)
    go_wp2
    go_ret
    exact ⟨by rw [HVV.out]; rfl, _, rfl⟩

end Go.Proofs.Ytpchljiiappmnaa
