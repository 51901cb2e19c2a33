/- A store into one cell of an element of an owned slice; no program in sight. -/
import Derived.Test.YtphaeegbmfpcgaaGreatDoorFB01
import Derived.Deep.MidRow
import Derived.Test.YtphaeegbmfpcgaaGreatDoorFB02
import Derived.Test.YtphaeegbmfpcgaaGreatDoorProg
import Derived.Shelf.Strings.BuilderX
import Derived.Lib.Walk
import Derived.Lib.Builder
import Derived.Lib.AppendStr
import Derived.Lib.UnsafeStr
import Derived.WalkKit
import Derived.WalkSpells
import Derived.Laws.Externs
import Derived.Lib.Hide
namespace Go.Proofs.YtphaeegbmfpcgaaGreatDoor
open Go Go.RowKit

theorem flat_set {α : Type} {C : α → List Value} {n : Nat} (hC : ∀ x, (C x).length = n) {l : List α} {k j : Nat} {x x' : α} {u : Value} (hk : l[k]? = some x) (hj : j < n) (hx : C x' = (C x).set j u) :
    (l.set k x').flatMap C = (l.flatMap C).set (k * n + j) u := by
 have hlt : k < l.length := (List.getElem?_eq_some_iff.1 hk).1
 have hn : 0 < n := by omega
 have hkn : k * n + j < l.length * n := by
  have : (k + 1) * n ≤ l.length * n := Nat.mul_le_mul_right _ hlt
  rw [Nat.add_mul] at this; omega
 apply List.ext_getElem?
 intro i
 by_cases hi : i < l.length * n
 · have hil : i / n < l.length := Nat.div_lt_of_lt_mul (by rw [Nat.mul_comm]; exact hi)
   have hm : i % n < n := Nat.mod_lt _ hn
   have ei : i = i / n * n + i % n := (Nat.div_add_mod' i n).symm
   rw [List.getElem?_set]
   by_cases hik : i / n = k
   · have h1 : (l.set k x')[i / n]? = some x' := by rw [hik]; simp [hlt]
     have h2 : l[i / n]? = some x := by rw [hik, hk]
     have e1 := flat_get hC (l.set k x') (i / n) (i % n) x' h1 hm
     have e2 := flat_get hC l (i / n) (i % n) x h2 hm
     rw [← ei] at e1 e2
     rw [e1, e2, hx, List.getElem?_set, flat_len hC, hC]
     have : (k * n + j = i) ↔ (j = i % n) := by
      constructor
      · intro h; rw [ei, hik] at h; omega
      · intro h; rw [ei, hik]; omega
     by_cases hji : j = i % n
     · rw [if_pos hji, if_pos (this.2 hji), if_pos hj, if_pos hkn]
     · rw [if_neg hji, if_neg (fun h => hji (this.1 h))]
   · have h1 : (l.set k x')[i / n]? = some l[i / n] := by rw [List.getElem?_set_ne (by omega)]; simp [hil]
     have h2 : l[i / n]? = some l[i / n] := by simp [hil]
     have e1 := flat_get hC (l.set k x') (i / n) (i % n) _ h1 hm
     have e2 := flat_get hC l (i / n) (i % n) _ h2 hm
     rw [← ei] at e1 e2
     rw [e1, e2]
     have : ¬ k * n + j = i := by
      intro h
      apply hik
      rw [← h, Nat.mul_comm, Nat.mul_add_div hn, Nat.div_eq_of_lt hj]; rfl
     rw [if_neg this]
 · rw [List.getElem?_eq_none (by rw [flat_len hC, List.length_set]; omega), List.getElem?_eq_none (by rw [List.length_set, flat_len hC]; omega)]
theorem own_store {α : Type} {base : Nat} {E : TypeId} {n : Nat} {C : α → List Value} (hC : ∀ x, (C x).length = n) {w : World} {ao : Option Addr} {len cap : Nat} {l : List α} {k j : Nat} {x : α}
    (h : Owns base E n C w (.slice ao len cap) l) (hk : l[k]? = some x) (hj : j < n) :
    ∃ g, ao = some ⟨g, 0, none⟩ ∧ base ≤ g ∧ g < w.heap.size ∧ w.cell? ⟨g, k * n + j, none⟩ = (C x)[j]? ∧ w.frozen? ⟨g, k * n + j, none⟩ = false ∧
     (∀ i u, (C x)[i]? = some u → w.cell? ⟨g, k * n + i, none⟩ = some u) ∧
     ∀ u x', C x' = (C x).set j u → Owns base E n C (w.setCell ⟨g, k * n + j, none⟩ u) (.slice ao len cap) (l.set k x') := by
 have hlt : k < l.length := (List.getElem?_eq_some_iff.1 hk).1
 have hkn : ∀ i, i < n → k * n + i < l.length * n := fun i hi => by
  have : (k + 1) * n ≤ l.length * n := Nat.mul_le_mul_right _ hlt
  rw [Nat.add_mul] at this; omega
 rcases h.2 with ⟨he, h0⟩ | ⟨g, cap', cur, he, hb, hg, hnc, hm, hcs, ht⟩
 · omega
 · cases he
   have hc : ∀ i, i < n → w.cell? ⟨g, k * n + i, none⟩ = (C x)[i]? := fun i hi => by
    rw [World.ownsRow.cellAt h (k * n + i) (hkn i hi), flat_get hC l k i x hk hi]
   refine ⟨g, rfl, hb, (Array.getElem?_eq_some_iff.1 hg).1, hc j hj, World.ownsRow.frozenAt h _, fun i u hu => ?_, fun u x' hx => ?_⟩
   · have hi : i < n := by rw [← hC x]; exact (List.getElem?_eq_some_iff.1 hu).1
     rw [hc i hi, hu]
   · unfold Owns
     rw [List.length_set, flat_set hC hk hj hx]
     exact (World.ownsRow.stored h (k * n + j) u).1
theorem setCell_grown (w : World) (g j : Nat) (u : Value) : w.grownBy (w.setCell ⟨g, j, none⟩ u) (some g) :=
 ⟨rfl, rfl, rfl, by simp [World.setCell], fun k _ hk => Below.heap_setCell w ⟨g, j, none⟩ u k (fun e => hk (by simp [e]))⟩
theorem Owns.keptR {α : Type} {base : Nat} {E : TypeId} {n : Nat} {C : α → List Value} {w w' : World} {v : Value} {l : List α} {r : Nat} (h : Owns base E n C w v l) (hg : w.grownBy w' (some r)) (hr : r < base) : Owns base E n C w' v l := by
 refine h.kept hg ?_
 cases hv : v.ownBlock with
 | none => exact .inl rfl
 | some k => right; have := (h.lt k hv).1; simp; omega
theorem Box.setCells {w : World} {b : Nat} {old cs : List Value} (h : Box w b old) (hl : old.length = cs.length) : Box (w.setCells b 0 cs) b cs := by
 have hth : w.there b 0 cs.length := fun j hj => by
  refine ⟨?_, by simpa using h.free (0 + j)⟩
  rw [Nat.zero_add, h.cell j old[j] (by simp [hl, hj])]; rfl
 have hr := World.rangeAt_setCells_same w b 0 cs hth
 have hg : ∀ (vs : List Value) (o : Nat) (w : World), (w.setCells b o vs).heap.size = w.heap.size := by
  intro vs
  induction vs with
  | nil => intro o w; rfl
  | cons v vs ih => intro o w; simp only [World.setCells]; rw [ih]; simp [World.setCell]
 refine ⟨by rw [hg]; exact h.lt, fun j u hu => by simpa using hr j u hu, fun j => ?_⟩
 rw [World.frozen?_setCells]; exact h.free j
theorem setCells_grown (b : Nat) : ∀ (vs : List Value) (o : Nat) (w : World), w.grownBy (w.setCells b o vs) (some b)
 | [], _, w => World.grownBy.refl _ _
 | v :: vs, o, w => ((⟨rfl, rfl, rfl, by simp [World.setCell], fun k _ hk => Below.heap_setCell w ⟨b, o, none⟩ v k (fun e => hk (by simp [e]))⟩ : w.grownBy (w.setCell ⟨b, o, none⟩ v) (some b))).trans (setCells_grown b vs (o + 1) _)
/-- A store of a whole struct into a variable of the call's own. -/
theorem wpList_store_box {P : Program} {ops : Array Oper} {rest : List Oper} {op : Oper} {a : Act} {w : World} {Q : Exit → Act → World → Prop} (hgd : op.guard = none) (ty : TypeId) (x y : Operand) (ho : op.op = .store ty x y)
    (b : Nat) (old cs : List Value) (hx : a.eval x = .pointer (some ⟨b, 0, none⟩)) (hy : a.eval y = .agg cs.toArray) (hb : Box w b old) (hl : old.length = cs.length)
    (hi : (P.info? ty).map (·.size) = some cs.length) (h1 : ∀ v ∈ cs, v.oneCell' = true)
    (h : ∀ W', Box W' b cs → w.grownBy W' (some b) → wpList P ops Q rest (a.put op.dst undef) W') : wpList P ops Q (op :: rest) a w := by
 have hth : w.there b 0 cs.toArray.size := fun j hj => by
  have hj' : j < old.length := by rw [hl]; simpa using hj
  refine ⟨?_, by simpa using hb.free (0 + j)⟩
  rw [Nat.zero_add, hb.cell j old[j] (by simp [hj'])]; rfl
 exact wpList_store_mid hgd ty x y ho b 0 cs.toArray hx hy hth (by simpa using hi) (all_oneCell_toArray h1) (h _ (hb.setCells hl) (setCells_grown b _ 0 w))

end Go.Proofs.YtphaeegbmfpcgaaGreatDoor

/- Walks of the program's reader: blanks, want, name; the conditions stand in the theorems. -/

namespace Go.Proofs.YtphaeegbmfpcgaaGreatDoor
open Go Go.RowKit

/-- The post of a method that goes on in the text. -/
structure Goes (v : Value) (b : Nat) (s : S) (r : Bs) (ov : Value) (w : World) (e : Ending) (w' : World) : Prop where
 ret : e = .returned v
 rd : Rd w' b s r ov
 grown : w.grownBy w' (some b)
/-- The post of one at which something goes wrong. -/
structure Bad (x : Int) (s : S) (r : Bs) (b : Nat) (w : World) (e : Ending) (w' : World) : Prop where
 pan : e = .panicked [{ v := faultV x (pos s r), recovered := false }]
 grown : w.grownBy w' (some b)
def placeOf (w : World) (b : Nat) : Int := match w.cell? ⟨b, 1, none⟩ with
 | some (.int _ n) => n
 | _ => 0
theorem Rd.place {w : World} {b : Nat} {s : S} {l : Bs} {ov : Value} (h : Rd w b s l ov) : placeOf w b = pos s l := by unfold placeOf; rw [h.c1]
set_option maxRecDepth 100000 in
set_option maxHeartbeats 2000000 in
theorem blanks_any (b : Nat) (s : S) (l : Bs) (ov : Value) (w : World) (h : Rd w b s l ov) (hs : s.size ≤ 1000000) :
    Calls Tryz.prog 157 #[.pointer (some ⟨b, 0, none⟩)] w (Goes (.int .i64 (l.length - (blanks l).length : Nat)) b s (blanks l) ov w) := by
 have c1 := h.c1
 have hq : pos s l ≤ s.size := by have := pos_add h.suf; omega
 have HP : Hid (pos s l + l.length = s.size) := pos_add h.suf
 have HH := Lib.hid h
 clear h
 go_enter Tryz.func157, Tryz.ntmps157
 go_wp2
 clear c1
 go_loopw [] (fun wr => ∃ l', Rd wr b s l' ov ∧ w.grownBy wr (some b) ∧ Hid (blanks l = blanks l')) (fun wr => s.size - (placeOf wr b).toNat)
 case atStart => exact ⟨l, HH.out, World.grownBy.refl _ _, rfl⟩
 case round =>
  obtain ⟨l', hR, hg, HB⟩ := hrel
  have HR := Lib.hid hR
  have c0 := hR.c0
  have c1 := hR.c1
  have f1 := hR.f1
  have hlt := hR.box.lt
  have hpl := hR.place
  have HPL := Lib.hid hpl
  have hp := pos_add hR.suf
  clear hpl
  cases l' with
  | nil =>
   have HN : Hid (∀ n, Calls Tryz.prog 120 #[.pointer (some ⟨b, 0, none⟩)] (wr.drewN n) fun e w'' => e = .returned (.bool true) ∧ ∃ m, w'' = wr.drewN m) := fun n => Qt.quiet (ends_any b s [] ov (wr.drewN n) (HR.out.drewN n))
   have hp' : pos s [] ≤ s.size := by omega
   clear hR hp
   generalize hpp : pos s [] = p at *
   have HPP := Lib.hid hpp
   clear hpp
   go_wp2
   go_quiet ((go_at_call 120; exact HN.out _))
   go_wp2
   go_ret
   have hbl : blanks l = [] := HB.out
   refine ⟨ret_int ?_, ?_, hg.trans (grownN wr nq _)⟩
   · have h1 := HPP.out
     have h2 := HP.out
     rw [pos_nil] at h1
     rw [hbl]; simp; omega
   · rw [hbl]; exact HR.out.drewN nq
  | cons c r =>
   have HN : Hid (∀ n, Calls Tryz.prog 120 #[.pointer (some ⟨b, 0, none⟩)] (wr.drewN n) fun e w'' => e = .returned (.bool false) ∧ ∃ m, w'' = wr.drewN m) := fun n => Qt.quiet (ends_any b s (c :: r) ov (wr.drewN n) (HR.out.drewN n))
   have hpl := pos_lt hR.suf
   have HG := Lib.hid (pos_get hR.suf hpl)
   have HC := Lib.hid (pos_cons hR.suf)
   have hsuf := suf_tail hR.suf
   have HS := Lib.hid hsuf
   clear hR hp hsuf
   generalize hpp : pos s (c :: r) = p at *
   have HPP := Lib.hid hpp
   clear hpp
   have hpi : (p : Int) < (s.size : Int) := by omega
   have hpb : (p : Int) + 1 ≤ 9223372036854775807 := by omega
   cases hcb : cBlank c
   all_goals
    have HI : Hid (∀ n, Calls Tryz.prog 191 #[.int .u8 s[p].toNat] (wr.drewN n) fun e w'' => e = .returned (.bool _) ∧ ∃ m, w'' = wr.drewN m) := fun n => quietS (by have := isBlank_any s[p] (wr.drewN n); rw [HG.out, hcb] at this; rw [HG.out]; exact this)
    have HCB := Lib.hid hcb
    clear hcb
    go_wp2
    go_quiet ((first | (go_at_call 120; exact HN.out _) | (go_at_call 191; exact HI.out _)))
    go_wp2
   · go_ret
     have hbl : blanks l = c :: r := by rw [HB.out]; simp [blanks, HCB.out]
     refine ⟨ret_int ?_, ?_, hg.trans (grownN wr nq _)⟩
     · have h1 := HPP.out
       have h2 := HP.out
       have h3 := pos_add HR.out.suf
       have h4 := blanks_le l
       rw [hbl] at h4 ⊢
       omega
     · rw [hbl]; exact HR.out.drewN nq
   · go_roundw
     case rel =>
      refine ⟨r, (HR.out.drewN nq).move HS.out (by rw [HC.out]; rfl), ?_, ?_⟩
      · exact (hg.trans (grownN wr nq _)).trans (setCell_grown _ b 1 _)
      · show _ = _; rw [HB.out]; simp [blanks, HCB.out]
     case measure =>
      have h3 : placeOf ((wr.drewN nq).setCell ⟨b, 1, none⟩ (.int .i64 ((p : Int) + 1))) b = (p : Int) + 1 := by
       have := ((HR.out.drewN nq).move HS.out (v := .int .i64 ((p : Int) + 1)) (by rw [HC.out]; rfl)).place
       rw [this, HC.out]; omega
      rw [h3, HPL.out]; omega
/-- The post of a method that returns nothing. -/
theorem bs_one (c : UInt8) : (⟨#[c]⟩ : S).data.toList = [c] := rfl
set_option maxRecDepth 100000 in
set_option maxHeartbeats 2000000 in
theorem want_ok (b : Nat) (s : S) (c : UInt8) (r : Bs) (ov : Value) (w : World) (h : Rd w b s (c :: r) ov) (hs : s.size ≤ 1000000) :
    Calls Tryz.prog 158 #[.pointer (some ⟨b, 0, none⟩), .string ⟨#[c]⟩] w (Goes (.tuple #[]) b s r ov w) := by
 have c1 := h.c1
 have f1 := h.f1
 have hlt := h.box.lt
 have hpl := pos_lt h.suf
 have HN : Hid (Calls Tryz.prog 120 #[.pointer (some ⟨b, 0, none⟩)] w (Qt (.bool false) w)) := ends_any b s (c :: r) ov w h
 have HA : Hid (∀ n, Calls Tryz.prog 153 #[.pointer (some ⟨b, 0, none⟩), .string ⟨#[c]⟩] (w.drewN n) (Qt (.bool true) (w.drewN n))) := fun n => by
  have := has_pre b s (c :: r) ov ⟨#[c]⟩ (w.drewN n) (h.drewN n)
  rw [bs_one] at this
  simpa [List.isPrefixOf] using this
 have HC := Lib.hid (pos_cons h.suf)
 have HS := Lib.hid (suf_tail h.suf)
 have HR := Lib.hid h
 clear h
 generalize pos s (c :: r) = p at *
 go_enter Tryz.func158, Tryz.ntmps158
 go_wp2_with fail
 refine HN.out.mono ?_
 rintro e w' ⟨rfl, n, rfl⟩
 go_wp2_with fail
 refine (HA.out _).mono ?_
 rintro e w' ⟨rfl, n2, rfl⟩
 go_wp2
 go_end0
 refine ⟨rfl, ?_, ?_⟩
 · exact (HR.out.drewN _).move HS.out (v := .int .i64 ((p : Int) + 1)) (by rw [HC.out]; rfl)
 · exact (grownN w _ _).trans (setCell_grown _ b 1 _)
set_option maxRecDepth 100000 in
set_option maxHeartbeats 2000000 in
theorem want_no (b : Nat) (s : S) (c x : UInt8) (r : Bs) (ov : Value) (w : World) (h : Rd w b s (x :: r) ov) (hne : x ≠ c) :
    Calls Tryz.prog 158 #[.pointer (some ⟨b, 0, none⟩), .string ⟨#[c]⟩] w (Bad 10 s (x :: r) b w) := by
 have c1 := h.c1
 have hlt := h.box.lt
 have HN : Hid (Calls Tryz.prog 120 #[.pointer (some ⟨b, 0, none⟩)] w (Qt (.bool false) w)) := ends_any b s (x :: r) ov w h
 have HA : Hid (∀ n, Calls Tryz.prog 153 #[.pointer (some ⟨b, 0, none⟩), .string ⟨#[c]⟩] (w.drewN n) (Qt (.bool false) (w.drewN n))) := fun n => by
  have := has_pre b s (x :: r) ov ⟨#[c]⟩ (w.drewN n) (h.drewN n)
  rw [bs_one] at this
  have hcx : (c == x) = false := by simpa using Ne.symm hne
  simpa [List.isPrefixOf, hcx] using this
 clear h hne
 go_enter Tryz.func158, Tryz.ntmps158
 go_wp2_with fail
 refine HN.out.mono ?_
 rintro e w' ⟨rfl, n, rfl⟩
 go_wp2_with fail
 refine (HA.out _).mono ?_
 rintro e w' ⟨rfl, n2, rfl⟩
 go_wp2_with fail
 refine (fail_any _ _ _).mono ?_
 rintro e w' ⟨rfl, rfl⟩
 go_wp2
 exact ⟨rfl, rfl, grownN w _ _⟩
set_option maxRecDepth 100000 in
set_option maxHeartbeats 2000000 in
theorem want_end (b : Nat) (s : S) (t : S) (ov : Value) (w : World) (h : Rd w b s [] ov) :
    Calls Tryz.prog 158 #[.pointer (some ⟨b, 0, none⟩), .string t] w (Bad 13 s [] b w) := by
 have c1 := h.c1
 have hlt := h.box.lt
 have HN : Hid (Calls Tryz.prog 120 #[.pointer (some ⟨b, 0, none⟩)] w (Qt (.bool true) w)) := ends_any b s [] ov w h
 clear h
 go_enter Tryz.func158, Tryz.ntmps158
 go_wp2_with fail
 refine HN.out.mono ?_
 rintro e w' ⟨rfl, n, rfl⟩
 go_wp2_with fail
 refine (fail_any _ _ _).mono ?_
 rintro e w' ⟨rfl, rfl⟩
 go_wp2
 exact ⟨rfl, rfl, grownN w n _⟩

end Go.Proofs.YtphaeegbmfpcgaaGreatDoor

/- Walks of the program's reader: name, until; the conditions stand in the theorems. -/

namespace Go.Proofs.YtphaeegbmfpcgaaGreatDoor
open Go Go.RowKit

/-- The post of a method: what is read, or what goes wrong. -/
def Out {α : Type} (f : α → Value) (b : Nat) (s : S) (ov : Value) (w : World) : Res α → Ending → World → Prop
 | .ok a r => Goes (f a) b s r ov w
 | .bad e r => Bad e s r b w
theorem want_any (b : Nat) (s : S) (c : UInt8) (l : Bs) (ov : Value) (w : World) (h : Rd w b s l ov) (hs : s.size ≤ 1000000) :
    Calls Tryz.prog 158 #[.pointer (some ⟨b, 0, none⟩), .string ⟨#[c]⟩] w (Out (fun _ => .tuple #[]) b s ov w (wantC c l)) := by
 cases l with
 | nil => exact want_end b s _ ov w h
 | cons x r =>
  by_cases hx : x = c
  · subst hx
    simp only [wantC, if_true]
    exact want_ok b s x r ov w h hs
  · simp only [wantC, hx, if_false]
    exact want_no b s c x r ov w h hx
set_option maxRecDepth 100000 in
set_option maxHeartbeats 2000000 in
theorem rname_any (b : Nat) (s : S) (x : Int) (l : Bs) (ov : Value) (w : World) (h : Rd w b s l ov) (hs : s.size ≤ 1000000) :
    Calls Tryz.prog 156 #[.pointer (some ⟨b, 0, none⟩), .int .i64 x] w (Out (fun n => .string (bs n)) b s ov w (nameR x l)) := by
 have c1 := h.c1
 have hlt := h.box.lt
 have HR := Lib.hid h
 cases l with
 | nil =>
  have HN : Hid (Calls Tryz.prog 120 #[.pointer (some ⟨b, 0, none⟩)] w (Qt (.bool true) w)) := ends_any b s [] ov w h
  clear h
  go_enter Tryz.func156, Tryz.ntmps156
  go_wp2_with fail
  refine HN.out.mono ?_
  rintro e w' ⟨rfl, n, rfl⟩
  go_wp2_with fail
  refine (fail_any _ _ _).mono ?_
  rintro e w' ⟨rfl, rfl⟩
  go_wp2
  exact ⟨rfl, rfl, grownN w n _⟩
 | cons c l =>
  have HN : Hid (Calls Tryz.prog 120 #[.pointer (some ⟨b, 0, none⟩)] w (Qt (.bool false) w)) := ends_any b s (c :: l) ov w h
  have HT : Hid (∀ n, Calls Tryz.prog 188 #[.pointer (some ⟨b, 0, none⟩)] (w.drewN n) (Qt (.string (bs (c :: l))) (w.drewN n))) := fun n => rest_any b s (c :: l) ov (w.drewN n) (h.drewN n)
  have hle := pos_add h.suf
  have HM : Hid (∀ w, Calls Tryz.prog 192 #[.string (bs (c :: l))] w fun e w' => e = .returned (.int .i64 (nameLen (c :: l))) ∧ w = w') := fun w => by
   have := name_any (bs (c :: l)) w (by rw [bs_size]; omega)
   rw [bs_data] at this; exact this
  by_cases h0 : nameLen (c :: l) = 0
  · have e0 : ((nameLen (c :: l) : Int) == 0) = true := beq_iff_eq.2 (by omega)
    have HO : Hid (nameR x (c :: l) = .bad x (c :: l)) := by show _ = _; simp only [nameR, h0, if_true]
    clear h h0 hle
    generalize nameLen (c :: l) = k at *
    generalize bs (c :: l) = u at *
    go_enter Tryz.func156, Tryz.ntmps156
    go_wp2_with fail
    refine HN.out.mono ?_
    rintro e w' ⟨rfl, n, rfl⟩
    go_wp2_with fail
    refine (HT.out _).mono ?_
    rintro e w' ⟨rfl, n2, rfl⟩
    go_wp2_with fail
    refine (HM.out _).mono ?_
    rintro e w' ⟨rfl, rfl⟩
    go_wp2_with fail
    refine (fail_any _ _ _).mono ?_
    rintro e w' ⟨rfl, rfl⟩
    go_wp2
    rw [HO.out]
    exact ⟨rfl, rfl, grownN w _ _⟩
  · have e0 : ((nameLen (c :: l) : Int) == 0) = false := beq_eq_false_iff_ne.2 (by omega)
    have HO : Hid (nameR x (c :: l) = .ok ((c :: l).take (nameLen (c :: l))) ((c :: l).drop (nameLen (c :: l)))) := by show _ = _; simp only [nameR, h0, if_false]
    have hnl := nameLen_le (c :: l)
    have hsuf := (List.drop_suffix (nameLen (c :: l)) (c :: l)).trans h.suf
    have hp2 : pos s ((c :: l).drop (nameLen (c :: l))) = pos s (c :: l) + nameLen (c :: l) := by
     have := pos_add hsuf; rw [List.length_drop] at this; omega
    have HX : Hid (s.extract (pos s (c :: l)) (pos s (c :: l) + nameLen (c :: l)) = bs ((c :: l).take (nameLen (c :: l)))) := by
     show _ = _
     rw [Lib.extract_eq, pos_drop h.suf, Nat.add_sub_cancel_left]; rfl
    have HP2 := Lib.hid hp2
    have HS := Lib.hid hsuf
    have hle2 : pos s (c :: l) + nameLen (c :: l) ≤ s.size := by omega
    clear h h0 hle hp2 hsuf hnl
    generalize nameLen (c :: l) = k at *
    generalize bs (c :: l) = u at *
    generalize hpp : pos s (c :: l) = p at *
    have HPP := Lib.hid hpp
    clear hpp
    go_enter Tryz.func156, Tryz.ntmps156
    go_wp2_with fail
    refine HN.out.mono ?_
    rintro e w' ⟨rfl, n, rfl⟩
    go_wp2_with fail
    refine (HT.out _).mono ?_
    rintro e w' ⟨rfl, n2, rfl⟩
    have f1 := HR.out.f1
    go_wp2_with fail
    refine (HM.out _).mono ?_
    rintro e w' ⟨rfl, rfl⟩
    go_wp2
    refine wp_world ?_
    intro W hW
    have hR : Rd W b s ((c :: l).drop k) ov := by rw [hW]; exact (HR.out.drewN _).move HS.out (v := .int .i64 ((p : Int) + k)) (by rw [HP2.out]; rfl)
    have hG : Hid (w.grownBy W (some b)) := by rw [hW]; exact (grownN w _ _).trans (setCell_grown _ b 1 _)
    clear hW c1 f1
    have c0 := hR.c0
    have c1 := hR.c1
    rw [HP2.out] at c1
    have hlt2 := hR.box.lt
    have HR2 := Lib.hid hR
    clear hR
    have w1 : IntKind.i64.wrap (((p + k : Nat) : Int) - (k : Int)) = (p : Int) := by rw [show ((p + k : Nat) : Int) - (k : Int) = (p : Int) by omega]; exact IntWalk.i64_in _ (by omega)
    have w2 : (p : Int) ≤ ((p + k : Nat) : Int) := by omega
    have w3 : ((p + k : Nat) : Int) ≤ (s.size : Int) := by omega
    go_quiet (fail)
    go_wp2
    go_ret
    rw [HO.out]
    exact ⟨by rw [HX.out]; rfl, HR2.out.drewN nq, hG.out.trans (grownN W nq _)⟩

end Go.Proofs.YtphaeegbmfpcgaaGreatDoor

/- The walk of the program's reader's until; its conditions stand in the theorem. -/

namespace Go.Proofs.YtphaeegbmfpcgaaGreatDoor
open Go Go.RowKit

theorem index_room {l til : Bs} (h : 0 ≤ Lib.index l til) : (Lib.index l til).toNat + til.length ≤ l.length := by
 induction l with
 | nil =>
  unfold Lib.index at h ⊢
  split
  · rename_i h2; simp at h2; simp [h2]
  · rename_i h2; rw [if_neg h2] at h; omega
 | cons c l ih =>
  have hge := Lib.index_ge l til
  unfold Lib.index at h ⊢
  split
  · rename_i h2
    have := (List.isPrefixOf_iff_prefix.1 h2).length_le
    simpa using this
  · rename_i h2
    rw [if_neg h2] at h
    split
    · rename_i h3; rw [if_pos h3] at h; omega
    · rename_i h3
      have h4 : 0 ≤ Lib.index l til := by simp at h3; omega
      have := ih h4
      simp only [List.length_cons]; omega
set_option maxRecDepth 100000 in
set_option maxHeartbeats 4000000 in
theorem until_any (b : Nat) (s fr til : S) (l0 l : Bs) (ov : Value) (m : Int) (w : World) (h : Rd w b s l0 ov) (hl : l = l0.drop fr.size) (hfs : fr.size ≤ l0.length) (hs : s.size ≤ 1000000) (hm : w.cell? ⟨0, 0, none⟩ = some (.int .i64 m))
    (ht : til.data.toList ≠ []) (hts : til.size ≤ 100) :
    Calls Tryz.prog 154 #[.pointer (some ⟨b, 0, none⟩), .string fr, .string til] w (Out (fun t => .string (bs t)) b s ov w (plain til.data.toList l)) := by
 have hsuf : l <:+ s.data.toList := by rw [hl]; exact (List.drop_suffix _ _).trans h.suf
 have hpl : pos s l = pos s l0 + fr.size := by
  have h1 := pos_add h.suf
  have h2 := pos_add hsuf
  have h3 : l.length = l0.length - fr.size := by rw [hl, List.length_drop]
  omega
 have hadd := pos_add hsuf
 have HO : Hid (plain til.data.toList l = untilP til.data.toList l) := plain_until ht l
 have hge := Lib.index_ge l til.data.toList
 have hroom := fun h0 => index_room (l := l) (til := til.data.toList) h0
 rw [size_data] at hroom
 have HI : Hid (∀ w, w.cell? ⟨0, 0, none⟩ = some (.int .i64 m) → Calls Tryz.prog 136 #[.string (bs l), .string til] w fun e w' => e = .returned (.int .i64 (Lib.index l til.data.toList)) ∧ w = w') := fun w hw => by
  have := index_any (bs l) til m w (by rw [bs_size]; omega) hw
  rw [bs_data] at this; exact this
 have HU : Hid (untilP til.data.toList l = if 0 ≤ Lib.index l til.data.toList then
  if span cText (l.take (Lib.index l til.data.toList).toNat) < (Lib.index l til.data.toList).toNat then .bad 10 (l.drop (span cText (l.take (Lib.index l til.data.toList).toNat)))
  else .ok (l.take (Lib.index l til.data.toList).toNat) (l.drop ((Lib.index l til.data.toList).toNat + til.size))
 else if span cText l < l.length then .bad 10 (l.drop (span cText l)) else .bad 13 []) := by show _ = _; rw [← size_data til]; rfl
 have c1 := h.c1
 have f1 := h.f1
 have hlt := h.box.lt
 have HR := Lib.hid h
 have HM := Lib.hid hm
 have HS := Lib.hid hsuf
 have HPL := Lib.hid hpl
 have hq0 : pos s l0 + fr.size ≤ s.size := by omega
 clear h hm hl hsuf
 generalize hI : Lib.index l til.data.toList = n at *
 clear hI
 generalize pos s l0 = p0 at *
 have hpp : pos s l ≤ s.size := by omega
 have HADD := Lib.hid hadd
 clear hadd hpl
 generalize hpg : pos s l = p at *
 have HPG := Lib.hid hpg
 clear hpg
 by_cases hn : 0 ≤ n
 · obtain ⟨k, rfl⟩ := Int.eq_ofNat_of_zero_le hn
   have hk := hroom hn
   rw [Int.toNat_natCast] at hk
   have hkl : k ≤ l.length := by omega
   have hk0 : (0 : Int) ≤ (k : Int) := by omega
   have hk1 : k ≤ (bs l).size := by rw [bs_size]; exact hkl
   have HV : Hid ((bs l).extract 0 k = bs (l.take k)) := by show _ = _; rw [bs_extract]; simp
   have HVL : Hid ((bs (l.take k)).size = k) := by show _ = _; rw [bs_size, List.length_take]; omega
   have hneg : ¬ (k : Int) < 0 := by omega
   have hkp : p + (k + til.size) ≤ s.size := by have := HADD.out; omega
   have HBAD : Hid (∀ j, span cText (bs (l.take k)).data.toList = j → j < (bs (l.take k)).size → plain til.data.toList l = .bad 10 (l.drop j) ∧ pos s (l.drop j) = p + j) := fun j h1 h2 => by
    rw [HVL.out] at h2
    rw [bs_data] at h1
    refine ⟨by rw [HO.out, HU.out, if_pos hn, Int.toNat_natCast, h1, if_pos h2], ?_⟩
    have h3 := pos_add ((List.drop_suffix j l).trans HS.out)
    have h4 := HADD.out
    rw [List.length_drop] at h3; omega
   have HOK : Hid (span cText (bs (l.take k)).data.toList = k → plain til.data.toList l = .ok (l.take k) (l.drop (k + til.size)) ∧ pos s (l.drop (k + til.size)) = p + (k + til.size) ∧ l.drop (k + til.size) <:+ s.data.toList) := fun h1 => by
    rw [bs_data] at h1
    have h0 := (List.drop_suffix (k + til.size) l).trans HS.out
    refine ⟨by rw [HO.out, HU.out, if_pos hn, Int.toNat_natCast, h1, if_neg (by omega)], ?_, h0⟩
    have h3 := pos_add h0
    have h4 := HADD.out
    rw [List.length_drop] at h3; omega
   clear hroom hge
   go_enter Tryz.func154, Tryz.ntmps154
   go_wp2_with fail
   refine Calls.world ?_
   intro W hW
   have hR : Rd W b s l ov := by rw [hW]; exact HR.out.move HS.out (v := .int .i64 ((p0 : Int) + fr.size)) (by rw [HPG.out, HPL.out]; rfl)
   have hm : W.cell? ⟨0, 0, none⟩ = some (.int .i64 m) := by rw [hW, World.cell?_setCell_other _ _ _ _ (by simp)]; exact HM.out
   have hG : Hid (w.grownBy W (some b)) := by rw [hW]; exact setCell_grown _ b 1 _
   clear hW c1 f1
   have c1 := hR.c1
   rw [HPG.out] at c1
   have f1 := hR.f1
   have hltW := hR.box.lt
   have HR2 := Lib.hid hR
   clear hR
   have HRT := Lib.hid (fun n => rest_any b s l ov (W.drewN n) (HR2.out.drewN n))
   have HRT0 := Lib.hid (rest_any b s l ov W HR2.out)
   generalize bs l = u at *
   refine HRT0.out.mono ?_
   rintro e w' ⟨rfl, n1, rfl⟩
   go_wp2_with fail
   refine (HI.out _ (show (W.drewN n1).cell? _ = _ from hm)).mono ?_
   rintro e w' ⟨rfl, rfl⟩
   go_wp2_with fail
   refine (HRT.out _).mono ?_
   rintro e w' ⟨rfl, n2, rfl⟩
   go_wp2
   rw [HV.out]
   have HVK := Lib.hid (show k ≤ l.length from hkl)
   clear HV
   generalize hvv : bs (l.take k) = v at *
   have HVV := Lib.hid hvv
   clear hvv
   go_loop [9, 38] (fun _ i => ∃ j : Nat, j ≤ k ∧ i = .int .i64 j ∧ Hid (span cText v.data.toList = j + span cText (v.data.toList.drop j))) (fun _ i => k - (intOf i).toNat)
   case atStart => exact ⟨0, Nat.zero_le _, rfl, by show _ = _; simp⟩
   case round =>
    obtain ⟨j, hj, rfl, H⟩ := hrel
    by_cases hjk : j < k
    · have hjv : j < v.size := by have := HVL.out; omega
      have HD := Lib.hid (drop_byte v j hjv)
      have hjp : (p : Int) + (j : Int) ≤ 1000000 := by have := HADD.out; have := HVK.out; omega
      cases hp : cText v[j]
      all_goals
       have HP := Lib.hid hp
       clear hp
      · have HJ := Lib.hid (HBAD.out j (by rw [H.out, HD.out]; simp [span, HP.out]) hjv)
        go_wp2_with (go_at_call 189; refine (isText_any _ _).mono ?_; rintro e w' ⟨rfl, rfl⟩; rw [HP.out])
        refine (fail_any 10 (p + j) _).mono ?_
        rintro e w' ⟨rfl, rfl⟩
        go_wp2
        rw [HJ.out.1]
        exact ⟨rfl, by rw [HJ.out.2], hG.out.trans (grownN W _ _)⟩
      · go_wp2_with (go_at_call 189; refine (isText_any _ _).mono ?_; rintro e w' ⟨rfl, rfl⟩; rw [HP.out])
        go_round
        case rel => exact ⟨j + 1, by omega, by go_num, by show _ = _; rw [H.out, HD.out]; simp only [span, HP.out, if_true]; omega⟩
        case measure => simp [intOf]; omega
    · have hall : span cText v.data.toList = k := by
       have := HVL.out
       rw [H.out, List.drop_of_length_le (by rw [size_data]; omega)]; simp [span]; omega
      have HK := Lib.hid (HOK.out hall)
      clear hall H
      go_wp2
      go_ret
      rw [HK.out.1]
      refine ⟨by show _ = Ending.returned (.string (bs (l.take k))); rw [HVV.out]; rfl, ?_, (hG.out.trans (grownN W _ _)).trans (setCell_grown _ b 1 _)⟩
      exact (HR2.out.drewN _).move HK.out.2.2 (v := .int .i64 ((p : Int) + ((k : Int) + (til.size : Int)))) (by rw [HK.out.2.1]; rfl)
 · have hn1 : n = -1 := by omega
   have HBAD : Hid (∀ j, span cText (bs l).data.toList = j → j < (bs l).size → plain til.data.toList l = .bad 10 (l.drop j) ∧ pos s (l.drop j) = p + j) := fun j h1 h2 => by
    rw [bs_size] at h2
    rw [bs_data] at h1
    refine ⟨by rw [HO.out, HU.out, if_neg hn, h1, if_pos h2], ?_⟩
    have h3 := pos_add ((List.drop_suffix j l).trans HS.out)
    have h4 := HADD.out
    rw [List.length_drop] at h3; omega
   have HEND : Hid (span cText (bs l).data.toList = (bs l).size → plain til.data.toList l = .bad 13 []) := fun h1 => by
    rw [bs_data, bs_size] at h1
    rw [HO.out, HU.out, if_neg hn, h1, if_neg (by omega)]
   have HVK : Hid ((bs l).size ≤ l.length) := by show _ ≤ _; rw [bs_size]; exact Nat.le_refl _
   subst hn1
   clear hroom hge hn HU
   go_enter Tryz.func154, Tryz.ntmps154
   go_wp2_with fail
   refine Calls.world ?_
   intro W hW
   have hR : Rd W b s l ov := by rw [hW]; exact HR.out.move HS.out (v := .int .i64 ((p0 : Int) + fr.size)) (by rw [HPG.out, HPL.out]; rfl)
   have hm : W.cell? ⟨0, 0, none⟩ = some (.int .i64 m) := by rw [hW, World.cell?_setCell_other _ _ _ _ (by simp)]; exact HM.out
   have hG : Hid (w.grownBy W (some b)) := by rw [hW]; exact setCell_grown _ b 1 _
   clear hW c1 f1
   have c0 := hR.c0
   have c1 := hR.c1
   rw [HPG.out] at c1
   have hltW := hR.box.lt
   have HR2 := Lib.hid hR
   clear hR
   have HRT := Lib.hid (fun n => rest_any b s l ov (W.drewN n) (HR2.out.drewN n))
   have HRT0 := Lib.hid (rest_any b s l ov W HR2.out)
   generalize bs l = v at *
   refine HRT0.out.mono ?_
   rintro e w' ⟨rfl, n1, rfl⟩
   go_wp2_with fail
   refine (HI.out _ (show (W.drewN n1).cell? _ = _ from hm)).mono ?_
   rintro e w' ⟨rfl, rfl⟩
   go_wp2_with fail
   refine (HRT.out _).mono ?_
   rintro e w' ⟨rfl, n2, rfl⟩
   go_wp2
   go_loop [9, 38] (fun _ i => ∃ j : Nat, j ≤ v.size ∧ i = .int .i64 j ∧ Hid (span cText v.data.toList = j + span cText (v.data.toList.drop j))) (fun _ i => v.size - (intOf i).toNat)
   case atStart => exact ⟨0, Nat.zero_le _, rfl, by show _ = _; simp⟩
   case round =>
    obtain ⟨j, hj, rfl, H⟩ := hrel
    by_cases hjk : j < v.size
    · have hjv : j < v.size := hjk
      have HD := Lib.hid (drop_byte v j hjv)
      have hjp : (p : Int) + (j : Int) ≤ 1000000 := by have := HADD.out; have := HVK.out; omega
      cases hp : cText v[j]
      all_goals
       have HP := Lib.hid hp
       clear hp
      · have HJ := Lib.hid (HBAD.out j (by rw [H.out, HD.out]; simp [span, HP.out]) hjv)
        go_wp2_with (go_at_call 189; refine (isText_any _ _).mono ?_; rintro e w' ⟨rfl, rfl⟩; rw [HP.out])
        refine (fail_any 10 (p + j) _).mono ?_
        rintro e w' ⟨rfl, rfl⟩
        go_wp2
        rw [HJ.out.1]
        exact ⟨rfl, by rw [HJ.out.2], hG.out.trans (grownN W _ _)⟩
      · go_wp2_with (go_at_call 189; refine (isText_any _ _).mono ?_; rintro e w' ⟨rfl, rfl⟩; rw [HP.out])
        go_round
        case rel => exact ⟨j + 1, by omega, by go_num, by show _ = _; rw [H.out, HD.out]; simp only [span, HP.out, if_true]; omega⟩
        case measure => simp [intOf]; omega
    · have hall : span cText v.data.toList = v.size := by
       rw [H.out, List.drop_of_length_le (by rw [size_data]; omega)]; simp [span]; omega
      have HK := Lib.hid (HEND.out hall)
      clear hall H
      go_wp2_with fail
      refine (fail_any 13 s.size _).mono ?_
      rintro e w' ⟨rfl, rfl⟩
      go_wp2
      rw [HK.out]
      exact ⟨rfl, by rw [pos_nil], hG.out.trans (grownN W _ _)⟩

end Go.Proofs.YtphaeegbmfpcgaaGreatDoor

/- The library's strings.Builder at this dump: copyCheck, WriteByte, WriteString; turned out of the shelf's proofs; the conditions stand in the theorems. -/
namespace Go.Proofs.YtphaeegbmfpcgaaGreatDoor
open Go Go.RowKit

theorem info_byte : (Tryz.prog.info? 5).map (fun i => (i.zero, i.size, i.bytes)) = some (some (.int .u8 0), 1, 1) := by kernel_rfl
theorem size_builder : (Tryz.prog.info? 258).map (·.size) = some 2 := by kernel_rfl
set_option maxHeartbeats 1000000 in
set_option maxRecDepth 100000 in
theorem copyCheck_used (b : Nat) (w : World) (h0 : w.cell? ⟨b, 0, none⟩ = some (.pointer (some ⟨b, 0, none⟩))) :
    Calls Tryz.prog 213 #[.pointer (some ⟨b, 0, none⟩)] w fun e w' => e = .returned (.tuple #[]) ∧ w' = w := by
 obtain ⟨j, hj, _⟩ := Option.map_eq_some_iff.1 size_builder
 go_enter Tryz.func213, Tryz.ntmps213
 go_wp2
 rw [Lib.run_neq_ptr_same w _ Tryz.underlying256 hj]
 go_wp2
 go_end0
 exact ⟨rfl, rfl⟩
set_option maxHeartbeats 1000000 in
set_option maxRecDepth 100000 in
theorem copyCheck_fresh (b : Nat) (w : World) (h0 : w.cell? ⟨b, 0, none⟩ = some (.pointer none)) (hsh : w.shape? b = some (258, 2)) (hfz : w.frozen? ⟨b, 0, none⟩ = false) :
    Calls Tryz.prog 213 #[.pointer (some ⟨b, 0, none⟩)] w fun e w' => e = .returned (.tuple #[]) ∧ w' = w.setCell ⟨b, 0, none⟩ (.pointer (some ⟨b, 0, none⟩)) := by
 obtain ⟨j, hj, hjs⟩ := Option.map_eq_some_iff.1 size_builder
 go_enter Tryz.func213, Tryz.ntmps213
 go_wp2
 rw [Lib.run_to_unsafe w ⟨b, 0, none⟩ Tryz.underlying256 Tryz.underlying235 hj (by rw [hjs]; decide) hsh (Nat.zero_lt_succ 1)]
 simp only [Result.andThen]
 rw [Oper.upon_value]
 go_wp2
 rw [run_callFunc_extern Tryz.func222 (by kernel_rfl) (by kernel_rfl) (by kernel_rfl) (e := Extern.AbiNoEscape.same) (by kernel_rfl)]
 rw [Lib.run_noEscape]
 simp only [Result.andThen]
 rw [Oper.upon_value]
 go_wp2
 rw [Lib.run_from_unsafe w ⟨b, 0, none⟩ Tryz.underlying235 Tryz.underlying256 hj hsh (by kernel_rfl)]
 simp only [Result.andThen]
 rw [Oper.upon_value]
 go_wp2
 go_end0
 exact ⟨rfl, rfl⟩
theorem copyCheck_any (B b : Nat) (bs : List Value) (w : World) (h : Lib.IsBuilder 258 5 B b bs w) :
    Calls Tryz.prog 213 #[.pointer (some ⟨b, 0, none⟩)] w fun e w' => e = .returned (.tuple #[]) ∧ (Lib.BuilderAt 258 5 B b (.pointer (some ⟨b, 0, none⟩)) bs w' ∧ Below B w w') := by
 rcases h with h | h
 · refine (copyCheck_fresh b w h.cell0 h.shape h.frozen0).mono ?_
   rintro e w' ⟨rfl, rfl⟩
   exact ⟨rfl, h.used _, (Below.refl B w).setCell (p := ⟨b, 0, none⟩) h.1 _⟩
 · refine (copyCheck_used b w h.cell0).mono ?_
   rintro e w' ⟨rfl, rfl⟩
   exact ⟨rfl, h, Below.refl B _⟩
set_option maxHeartbeats 2000000 in
set_option maxRecDepth 100000 in
theorem writeByte_any (B b : Nat) (bs : List Value) (c : Int) (w : World) (h : Lib.IsBuilder 258 5 B b bs w) (hlen : bs.length + 1 ≤ 140737488355328) (hBw : B ≤ w.heap.size) :
    Calls Tryz.prog 196 #[.pointer (some ⟨b, 0, none⟩), .int .u8 c] w fun e w' => e = .returned .nilIface ∧ (Lib.BuilderAt 258 5 B b (.pointer (some ⟨b, 0, none⟩)) (bs ++ [.int .u8 c]) w' ∧ Below B w w') := by
 obtain ⟨i0, hi, hz0, hz1, hz2⟩ := info_parts info_byte
 go_enter Tryz.func196, Tryz.ntmps196
 go_wp2_with (go_at_call 213; refine (copyCheck_any B b bs _ h).mono ?_)
 rintro e w1 ⟨rfl, h1, hb1⟩
 obtain ⟨hB, v, hbk, hown, hne⟩ := h1
 have c0 : w1.cell? ⟨b, 0, none⟩ = some (.pointer (some ⟨b, 0, none⟩)) := by rw [Lib.cell_of_heap hbk]; rfl
 have c1 : w1.cell? ⟨b, 1, none⟩ = some v := by rw [Lib.cell_of_heap hbk]; rfl
 go_wp2_with (at_builtin; refine wpList_append_own _ rfl _ _ 173 rfl B 5 i0 (.int .u8 0) 1 1 Tryz.underlying173 hi hz0 hz1 hz2 rfl (by decide) _ _ _ rfl (hown.alloc _) ⟨w1.heap.size, 0, none⟩ 1 1 [.int .u8 c] rfl rfl ?c1 ?c2 ?c3 ?c4 ?c5 ?_)
 case c1 =>
  intro j u hj
  match j, hj with
  | 0, hj => simp at hj; subst hj; simp [Addr.add]
 case c2 => intro u hu; simp at hu; subst hu; rfl
 case c3 => unfold maxLen; omega
 case c4 => omega
 case c5 => have := hb1.size; simp; omega
 intro v' w2 hown' hgrow _
 have hlt : b < w1.heap.size := by
  rcases Nat.lt_or_ge b w1.heap.size with h' | h'
  · exact h'
  · simp [Array.getElem?_eq_none h'] at hbk
 have hb2 : w2.heap[b]? = some (.cells #[.pointer (some ⟨b, 0, none⟩), v] 258 (0, 0)) := by
  rw [hgrow.block b (by simp; omega) (fun e => hne e.symm), Lib.alloc_old w1 _ b hlt]
  exact hbk
 have d0 : w2.cell? ⟨b, 0, none⟩ = some (.pointer (some ⟨b, 0, none⟩)) := by rw [Lib.cell_of_heap hb2]; rfl
 have d1 : w2.cell? ⟨b, 1, none⟩ = some v := by rw [Lib.cell_of_heap hb2]; rfl
 have f1 : w2.frozen? ⟨b, 1, none⟩ = false := Lib.frozen_of_heap hb2 1
 obtain ⟨g, cap, rfl⟩ : ∃ g cap, v' = .slice (some ⟨g, 0, none⟩) (bs.length + 1) cap := by
  rcases hown'.2 with ⟨_, h0⟩ | ⟨g, cap, cur, hv, _⟩
  · omega
  · exact ⟨g, cap, hv⟩
 go_wp2
 go_ret
 refine ⟨rfl, ?_, ?_⟩
 · exact Lib.BuilderAt.put (T := 258) (e := 5) hB hb2 (bs' := bs ++ [.int .u8 c]) (by simpa using hown') (by decide)
 · exact ((hb1.alloc (by have := hb1.size; omega) _).grown hgrow (by have := hb1.size; simp; omega) (fun k hk => (hown.lt k hk).1)).setCell (p := ⟨b, 1, none⟩) hB _
set_option maxHeartbeats 2000000 in
set_option maxRecDepth 100000 in
theorem writeString_any (B b : Nat) (bs : List Value) (s : ByteArray) (w : World) (h : Lib.IsBuilder 258 5 B b bs w) (hlen : bs.length + s.size ≤ 140737488355328) (hBw : B ≤ w.heap.size) :
    Calls Tryz.prog 195 #[.pointer (some ⟨b, 0, none⟩), .string s] w fun e w' => e = .returned (.tuple #[.int .i64 s.size, .nilIface]) ∧ (Lib.BuilderAt 258 5 B b (.pointer (some ⟨b, 0, none⟩)) (bs ++ Lib.strCells s) w' ∧ Below B w w') := by
 obtain ⟨i0, hi, hz0, hz1, hz2⟩ := info_parts info_byte
 go_enter Tryz.func195, Tryz.ntmps195
 go_wp2_with (go_at_call 213; refine (copyCheck_any B b bs _ h).mono ?_)
 rintro e w1 ⟨rfl, h1, hb1⟩
 obtain ⟨hB, v, hbk, hown, hne⟩ := h1
 have c0 : w1.cell? ⟨b, 0, none⟩ = some (.pointer (some ⟨b, 0, none⟩)) := by rw [Lib.cell_of_heap hbk]; rfl
 have c1 : w1.cell? ⟨b, 1, none⟩ = some v := by rw [Lib.cell_of_heap hbk]; rfl
 go_wp2_with (at_builtin; refine Lib.wpList_append_own_string _ rfl _ _ 173 9 rfl B 5 i0 Tryz.underlying173 Tryz.underlying9 hi hz0 hz1 hz2 _ _ _ rfl hown s rfl ?c3 ?c4 ?c5 ?_)
 case c3 => unfold maxLen; omega
 case c4 => omega
 case c5 => have := hb1.size; omega
 intro v' w2 hown' hgrow _
 have hlt : b < w1.heap.size := by
  rcases Nat.lt_or_ge b w1.heap.size with h' | h'
  · exact h'
  · simp [Array.getElem?_eq_none h'] at hbk
 have hb2 : w2.heap[b]? = some (.cells #[.pointer (some ⟨b, 0, none⟩), v] 258 (0, 0)) := by
  rw [hgrow.block b hlt (fun e => hne e.symm)]
  exact hbk
 have d0 : w2.cell? ⟨b, 0, none⟩ = some (.pointer (some ⟨b, 0, none⟩)) := by rw [Lib.cell_of_heap hb2]; rfl
 have d1 : w2.cell? ⟨b, 1, none⟩ = some v := by rw [Lib.cell_of_heap hb2]; rfl
 have f1 : w2.frozen? ⟨b, 1, none⟩ = false := Lib.frozen_of_heap hb2 1
 obtain ⟨ao, n', cap, rfl⟩ : ∃ ao n' cap, v' = .slice ao n' cap := by
  rcases hown'.2 with ⟨hv, _⟩ | ⟨g, cap, cur, hv, _⟩
  · exact ⟨_, _, _, hv⟩
  · exact ⟨_, _, _, hv⟩
 go_wp2
 go_ret2
 refine ⟨rfl, ?_, ?_⟩
 · exact Lib.BuilderAt.put (T := 258) (e := 5) hB hb2 (bs' := bs ++ Lib.strCells s) (by simpa [Lib.strCells_length] using hown') (by decide)
 · exact (hb1.grown hgrow (by have := hb1.size; omega) (fun k hk => (hown.lt k hk).1)).setCell (p := ⟨b, 1, none⟩) hB _

end Go.Proofs.YtphaeegbmfpcgaaGreatDoor

/- The walk of the program's reader's letters; its conditions stand in the theorem. -/

namespace Go.Proofs.YtphaeegbmfpcgaaGreatDoor
open Go Go.RowKit

theorem letterN_len (n : Nat) : (letterN n).length ≤ 4 := by
 unfold letterN; split
 · simp
 · split
   · simp
   · split <;> simp
theorem refSpec_len {s t : Bs} {n : Nat} (h : refSpec s = .ok t n) : t.length ≤ 4 := by
 have hn : ∀ hex a d, numRef hex a d = .ok t n → t.length ≤ 4 := by
  intro hex a d h
  unfold numRef at h
  by_cases h1 : 8 < span (isDig hex) d
  · rw [if_pos h1] at h; cases h
  · rw [if_neg h1] at h
    by_cases h2 : span (isDig hex) d = d.length
    · rw [if_pos h2] at h; cases h
    · rw [if_neg h2] at h
      by_cases h3 : span (isDig hex) d = 0 ∨ d[span (isDig hex) d]? ≠ some 59
      · rw [if_pos h3] at h; cases h
      · rw [if_neg h3] at h
        split at h
        · cases h; exact letterN_len _
        · cases h
 cases s with
 | nil => cases h
 | cons c r =>
  simp only [refSpec] at h
  by_cases hc : c = 38
  · rw [if_neg (by simp [hc])] at h
    split at h
    · split at h
      · exact hn _ _ _ h
      · exact hn _ _ _ h
    · by_cases hl : span cLower r = r.length
      · rw [if_pos hl] at h
        split at h <;> cases h
      · rw [if_neg hl] at h
        split at h
        · split at h
          · cases h; simp
          · cases h
        · cases h
  · rw [if_pos hc] at h; cases h
theorem isB_kept {T e : TypeId} {B k b : Nat} {bs : List Value} {w w' : World} (h : Lib.IsBuilder T e B k bs w) (hg : w.grownBy w' (some b)) (hb : b < B) : Lib.IsBuilder T e B k bs w' := by
 have key : ∀ p, Lib.BuilderAt T e B k p bs w → Lib.BuilderAt T e B k p bs w' := fun p h => by
  have hlt := h.lt
  obtain ⟨h1, v, h2, h3, h4⟩ := h
  refine ⟨h1, v, (hg.block k hlt (by simp; omega)).trans h2, World.ownsRow.kept h3 hg ?_, h4⟩
  cases hv : v.ownBlock with
  | none => exact .inl rfl
  | some x => right; have := (World.ownsRow.lt h3 x hv).1; simp; omega
 rcases h with h | h
 · exact .inl (key _ h)
 · exact .inr (key _ h)
theorem byteCells_snoc (l : Bs) (c : UInt8) : Lib.byteCells (l ++ [c]) = Lib.byteCells l ++ [.int .u8 c.toNat] := by simp [Lib.byteCells]
theorem byteCells_app (l : Bs) (t : Bs) : Lib.byteCells (l ++ t) = Lib.byteCells l ++ Lib.strCells (bs t) := by
 simp [Lib.byteCells, Lib.strCells, bs]
theorem Rd.belowB {w w' : World} {b B : Nat} {s : S} {l : Bs} {ov : Value} (h : Rd w b s l ov) (hb : Below B w w') (hlt : b < B) : Rd w' b s l ov := ⟨h.box.below hb hlt, h.suf⟩
theorem grown_below {w x w' : World} {B : Nat} {row : Option Nat} (h : w.grownBy x row) (hb : Below B x w') (hB : w.heap.size ≤ B) : w.grownBy w' row :=
 ⟨hb.os.trans h.os, hb.tape.trans h.tape, hb.output.trans h.output, Nat.le_trans h.size hb.size, fun k hk hne => (hb.block k (by omega)).trans (h.block k hk hne)⟩
theorem refSpec_bad {s : Bs} {e : Int} (h : refSpec s = .bad e) : e = 12 ∨ e = 13 := by
 have hn : ∀ hex a d, numRef hex a d = .bad e → e = 12 ∨ e = 13 := by
  intro hex a d h
  unfold numRef at h
  by_cases h1 : 8 < span (isDig hex) d
  · rw [if_pos h1] at h; cases h; exact .inl rfl
  · rw [if_neg h1] at h
    by_cases h2 : span (isDig hex) d = d.length
    · rw [if_pos h2] at h; cases h; exact .inr rfl
    · rw [if_neg h2] at h
      by_cases h3 : span (isDig hex) d = 0 ∨ d[span (isDig hex) d]? ≠ some 59
      · rw [if_pos h3] at h; cases h; exact .inl rfl
      · rw [if_neg h3] at h
        split at h
        · cases h
        · cases h; exact .inl rfl
 cases s with
 | nil => cases h; exact .inr rfl
 | cons c r =>
  simp only [refSpec] at h
  by_cases hc : c = 38
  · rw [if_neg (by simp [hc])] at h
    split at h
    · split at h
      · exact hn _ _ _ h
      · exact hn _ _ _ h
    · by_cases hl : span cLower r = r.length
      · rw [if_pos hl] at h
        split at h
        · cases h; exact .inr rfl
        · cases h; exact .inl rfl
      · rw [if_neg hl] at h
        split at h
        · split at h
          · cases h
          · cases h; exact .inl rfl
        · cases h; exact .inl rfl
  · rw [if_pos hc] at h; cases h; exact .inl rfl
/-- What the loop over letters has done so far. -/
structure Lets (w wr : World) (b : Nat) (s : S) (ov : Value) (stop : UInt8) (l l' acc : Bs) : Prop where
 rd : Rd wr b s l' ov
 grown : w.grownBy wr (some b)
 own : Lib.IsBuilder 258 5 w.heap.size w.heap.size (Lib.byteCells acc) wr
 spec : letters stop l = (letters stop l').map (acc ++ ·)
 len : acc.length + 4 * l'.length ≤ 4 * l.length
theorem Lets.drewN {w wr : World} {b : Nat} {s : S} {ov : Value} {stop : UInt8} {l l' acc : Bs} (h : Lets w wr b s ov stop l l' acc) (n : Nat) : Lets w (wr.drewN n) b s ov stop l l' acc :=
 ⟨h.rd.drewN n, h.grown.trans (grownN _ _ _), h.own, h.spec, h.len⟩
theorem map_map {α β γ : Type} (x : Res α) (f : α → β) (g : β → γ) : (x.map f).map g = x.map (fun a => g (f a)) := by cases x <;> rfl
theorem Lets.step {w wr w4 : World} {b : Nat} {s : S} {ov : Value} {stop : UInt8} {l l1 l2 acc acc' t : Bs} {v : Value} (h : Lets w wr b s ov stop l l1 acc) (hb : Below w.heap.size wr w4) (hlt : b < w.heap.size)
    (hown : Lib.IsBuilder 258 5 w.heap.size w.heap.size (Lib.byteCells acc') w4) (hsuf : l2 <:+ s.data.toList) (hv : v = .int .i64 (pos s l2 : Nat)) (hspec : letters stop l1 = (letters stop l2).map (t ++ ·)) (hacc : acc' = acc ++ t) (hlen : t.length + 4 * l2.length ≤ 4 * l1.length) :
    Lets w (w4.setCell ⟨b, 1, none⟩ v) b s ov stop l l2 acc' := by
 refine ⟨(h.rd.belowB hb hlt).move hsuf hv, (grown_below h.grown hb (Nat.le_refl _)).trans (setCell_grown _ b 1 _), isB_kept hown (setCell_grown _ b 1 _) hlt, ?_, ?_⟩
 · rw [h.spec, hspec, map_map]
   subst hacc
   cases letters stop l2 <;> simp [Res.map]
 · have := h.len
   subst hacc
   rw [List.length_append]; omega
theorem Lets.less {w wr w' : World} {b : Nat} {s : S} {ov : Value} {stop : UInt8} {l l1 l2 acc acc' : Bs} (h : Lets w wr b s ov stop l l1 acc) (h' : Lets w w' b s ov stop l l2 acc') (hlt : l2.length < l1.length) : s.size - (placeOf w' b).toNat < s.size - (placeOf wr b).toNat := by
 rw [h.rd.place, h'.rd.place]
 have := pos_add h.rd.suf
 have := pos_add h'.rd.suf
 omega
set_option maxRecDepth 100000 in
set_option maxHeartbeats 4000000 in
theorem letters_any (b : Nat) (s : S) (stop : UInt8) (l : Bs) (ov : Value) (w : World) (h : Rd w b s l ov) (hs : s.size ≤ 1000000) :
    Calls Tryz.prog 160 #[.pointer (some ⟨b, 0, none⟩), .int .u8 stop.toNat] w (Out (fun t => .string (bs t)) b s ov w (letters stop l)) := by
 have hlt0 := h.box.lt
 have hll : l.length ≤ 1000000 := by have := pos_add h.suf; omega
 have hI : Lets w (w.alloc (.cells #[.pointer none, .slice none 0 0] 258)) b s ov stop l l [] := by
  refine ⟨h.below ((Below.refl _ _).alloc (Nat.le_refl _) _), World.grownBy_alloc _ _ _, Lib.fresh_isBuilder _ _ _, ?_, by simp⟩
  cases letters stop l <;> simp [Res.map]
 have HI := Lib.hid hI
 clear hI h
 go_enter Tryz.func160, Tryz.ntmps160
 go_wp2
 go_loopw [] (fun wr => ∃ l' acc, Lets w wr b s ov stop l l' acc) (fun wr => s.size - (placeOf wr b).toNat)
 case atStart => exact ⟨l, [], HI.out⟩
 case round =>
  clear HI
  obtain ⟨l', acc, hL⟩ := hrel
  have HL := Lib.hid hL
  have c0 := hL.rd.c0
  have c1 := hL.rd.c1
  have f1 := hL.rd.f1
  have hlt := hL.rd.box.lt
  have HPL := Lib.hid hL.rd.place
  have hp := pos_add hL.rd.suf
  have hsz := hL.grown.size
  have hal : acc.length + 4 * l'.length ≤ 4000000 := by have := hL.len; omega
  cases l' with
  | nil =>
   have HN : Hid (∀ n, Calls Tryz.prog 120 #[.pointer (some ⟨b, 0, none⟩)] (wr.drewN n) fun e w'' => e = .returned (.bool true) ∧ ∃ m, w'' = wr.drewN m) := fun n => Qt.quiet (ends_any b s [] ov (wr.drewN n) (HL.out.rd.drewN n))
   have hp' : pos s [] ≤ s.size := by omega
   clear hp hL
   generalize hpp : pos s [] = p at *
   clear hpp
   go_wp2
   go_quiet ((go_at_call 120; exact HN.out _))
   go_wp2_with fail
   refine (Tryz.Builder_String_any w.heap.size w.heap.size acc _ (HL.out.drewN _).own hsz).mono ?_
   rintro e w' ⟨rfl, hb⟩
   go_wp2
   go_ret
   rw [HL.out.spec]
   refine ⟨by simp; rfl, ?_, ?_⟩
   · exact (HL.out.drewN _).rd.belowB hb hlt0
   · exact grown_below (HL.out.drewN nq).grown hb (Nat.le_refl _)
  | cons c r =>
   have HN : Hid (∀ n, Calls Tryz.prog 120 #[.pointer (some ⟨b, 0, none⟩)] (wr.drewN n) fun e w'' => e = .returned (.bool false) ∧ ∃ m, w'' = wr.drewN m) := fun n => Qt.quiet (ends_any b s (c :: r) ov (wr.drewN n) (HL.out.rd.drewN n))
   have HRT := Lib.hid (fun n => rest_any b s (c :: r) ov (wr.drewN n) (HL.out.rd.drewN n))
   have HRF : Hid (∀ w, Calls Tryz.prog 194 #[.string (bs (c :: r))] w fun e w' => e = .returned (refTuple (refSpec (c :: r))) ∧ Below w.heap.size w w') := fun w => by
    have := ref_any (bs (c :: r)) w (by rw [bs_size]; omega)
    rw [bs_data] at this; exact this
   have hpl := pos_lt hL.rd.suf
   have hg := pos_get hL.rd.suf hpl
   have HC := Lib.hid (pos_cons hL.rd.suf)
   have HS := Lib.hid (suf_tail hL.rd.suf)
   have HF := Lib.hid hL.rd.suf
   have HAD := Lib.hid hp
   clear hp hL
   generalize hpp : pos s (c :: r) = p at *
   have HPP := Lib.hid hpp
   clear hpp
   have hpi : (p : Int) < (s.size : Int) := by omega
   have hpb : (p : Int) + 1 ≤ 1000000 := by omega
   have HG := Lib.hid hg
   by_cases hst : c = stop
   · have e1 : (((s[p].toNat : Nat) : Int) != ((stop.toNat : Nat) : Int)) = false := by rw [hg, hst]; simp
     have HST := Lib.hid hst
     clear hst hg
     go_wp2
     go_quiet ((go_at_call 120; exact HN.out _))
     go_wp2_with fail
     refine (Tryz.Builder_String_any w.heap.size w.heap.size acc _ (HL.out.drewN _).own hsz).mono ?_
     rintro e w' ⟨rfl, hb⟩
     go_wp2
     go_ret
     rw [HL.out.spec]
     have hO : letters stop (c :: r) = .ok [] (c :: r) := by rw [HST.out]; simp [letters, lettersGo]
     rw [hO]
     refine ⟨by simp; rfl, ?_, ?_⟩
     · exact (HL.out.drewN _).rd.belowB hb hlt0
     · exact grown_below (HL.out.drewN nq).grown hb (Nat.le_refl _)
   · have e1 : (((s[p].toNat : Nat) : Int) != ((stop.toNat : Nat) : Int)) = true := by
      rw [hg, bne_iff_ne]; intro e; exact hst (UInt8.toNat_inj.1 (by omega))
     have HST := Lib.hid hst
     clear hst
     by_cases h38 : c = 38
     · have e2 : (((s[p].toNat : Nat) : Int) == 38) = true := by rw [hg, h38]; decide
       have H38 := Lib.hid h38
       clear h38 hg
       cases hrf : refSpec (c :: r) with
       | bad x =>
        have hx := refSpec_bad hrf
        have e3 : (x != 0) = true := by rw [bne_iff_ne]; omega
        have HX := Lib.hid hrf
        rw [hrf] at HRF
        clear hrf hx
        simp only [refTuple] at HRF
        go_wp2
        go_quiet ((go_at_call 120; exact HN.out _))
        go_wp2
        go_quiet (fail)
        go_wp2_with fail
        refine (HRT.out _).mono ?_
        rintro e w' ⟨rfl, n2, rfl⟩
        go_wp2_with fail
        refine (HRF.out _).mono ?_
        rintro e w3 ⟨rfl, hb3⟩
        have hR3 := (HL.out.rd.drewN _).below hb3
        have c1 := hR3.c1
        rw [HPP.out] at c1
        have hlt3 := hR3.box.lt
        clear hR3
        go_wp2_with fail
        refine (fail_any x p _).mono ?_
        rintro e w' ⟨rfl, rfl⟩
        go_wp2
        rw [HL.out.spec]
        have hO : letters stop (c :: r) = .bad x (c :: r) := by simp only [letters, lettersGo]; rw [if_neg HST.out, if_pos H38.out, HX.out]
        rw [hO]
        exact ⟨rfl, by rw [HPP.out], grown_below (HL.out.drewN _).grown hb3 HL.out.grown.size⟩
       | ok t n =>
        have HX := Lib.hid hrf
        rw [hrf] at HRF
        obtain ⟨hn1, hn2⟩ := refSpec_size hrf
        have htl := refSpec_len hrf
        have HN2 := Lib.hid hn2
        have hpn : (p : Int) + (n : Int) ≤ 1000000 := by have := HAD.out; omega
        clear hrf
        simp only [refTuple] at HRF
        go_wp2
        go_quiet ((go_at_call 120; exact HN.out _))
        go_wp2
        go_quiet (fail)
        go_wp2_with fail
        refine (HRT.out _).mono ?_
        rintro e w' ⟨rfl, n2, rfl⟩
        go_wp2_with fail
        refine (HRF.out _).mono ?_
        rintro e w3 ⟨rfl, hb3⟩
        have hb3' : Below w.heap.size wr w3 := (belowN (Below.refl w.heap.size wr) _).trans (hb3.mono hsz)
        have hown3 := isB_kept (HL.out.drewN _).own (grownOf hb3 (some b)) hlt0
        have hsz3 : w.heap.size ≤ w3.heap.size := Nat.le_trans hsz hb3.size
        clear hb3
        go_wp2_with fail
        refine (writeString_any w.heap.size w.heap.size (Lib.byteCells acc) (bs t) w3 hown3 (by rw [bs_size]; simp [Lib.byteCells]; omega) hsz3).mono ?_
        rintro e w4 ⟨rfl, hown4, hb4⟩
        have hb4' := hb3'.trans hb4
        have hR4 := HL.out.rd.belowB hb4' hlt0
        have c1 := hR4.c1
        have f1 := hR4.f1
        rw [HPP.out] at c1
        have hlt4 := hR4.box.lt
        have HB4 := Lib.hid hb4'
        have HW4 := Lib.hid hown4
        clear hR4 hb4 hb3' hown3 hown4 hb4'
        go_wp2
        have hsf : (c :: r).drop n <:+ s.data.toList := (List.drop_suffix _ _).trans HF.out
        have hpd : pos s ((c :: r).drop n) = p + n := by
         have h1 := pos_add hsf
         have h2 := HAD.out
         have h3 := HN2.out
         rw [List.length_drop] at h1
         omega
        have hnew : Lets w (w4.setCell ⟨b, 1, none⟩ (.int .i64 ((p : Int) + (n : Int)))) b s ov stop l ((c :: r).drop n) (acc ++ t) := by
         refine HL.out.step (t := t) HB4.out hlt0 (.inr (by rw [byteCells_app]; exact HW4.out)) hsf (by rw [hpd]; rfl) ?_ rfl ?_
         · simp only [letters, lettersGo]; rw [if_neg HST.out, if_pos H38.out, HX.out]
           simp only []
           rw [lettersGo_drop]
           obtain ⟨k, rfl⟩ : ∃ k, n = k + 1 := ⟨n - 1, by omega⟩
           rfl
         · have h3 := HN2.out
           rw [List.length_drop]; omega
        go_roundw
        case rel => exact ⟨_, _, hnew⟩
        case measure => exact HL.out.less hnew (by rw [List.length_drop]; simp only [List.length_cons]; omega)
     · have e2 : (((s[p].toNat : Nat) : Int) == 38) = false := by
        rw [hg, beq_eq_false_iff_ne]; intro e; exact h38 (UInt8.toNat_inj.1 (by simpa using (by omega : c.toNat = 38)))
       have H38 := Lib.hid h38
       clear h38
       by_cases h60 : c = 60
       · have e3 : (((s[p].toNat : Nat) : Int) == 60) = true := by rw [hg, h60]; decide
         have H60 := Lib.hid h60
         clear h60 hg
         go_wp2
         go_quiet ((go_at_call 120; exact HN.out _))
         go_wp2
         go_quiet (fail)
         go_wp2_with fail
         refine (fail_any 10 p _).mono ?_
         rintro e w' ⟨rfl, rfl⟩
         go_wp2
         rw [HL.out.spec]
         have hO : letters stop (c :: r) = .bad 10 (c :: r) := by simp only [letters, lettersGo]; rw [if_neg HST.out, if_neg H38.out, if_pos (.inl H60.out)]
         rw [hO]
         exact ⟨rfl, by rw [HPP.out], (HL.out.drewN _).grown⟩
       · have e3 : (((s[p].toNat : Nat) : Int) == 60) = false := by
          rw [hg, beq_eq_false_iff_ne]; intro e; exact h60 (UInt8.toNat_inj.1 (by simpa using (by omega : c.toNat = 60)))
         have H60 := Lib.hid h60
         clear h60 hg
         cases htx : cText c
         · have HT : Hid (∀ w, Calls Tryz.prog 189 #[.int .u8 s[p].toNat] w fun e w' => e = .returned (.bool false) ∧ w = w') := fun w => by
            have := isText_any s[p] w
            rw [show cText s[p] = false by rw [HG.out, htx]] at this; exact this
           have HTX := Lib.hid htx
           clear htx
           go_wp2
           go_quiet ((go_at_call 120; exact HN.out _))
           go_wp2
           go_quiet (fail)
           go_wp2_with fail
           refine (HT.out _).mono ?_
           rintro e w' ⟨rfl, rfl⟩
           go_wp2_with fail
           refine (fail_any 10 p _).mono ?_
           rintro e w' ⟨rfl, rfl⟩
           go_wp2
           rw [HL.out.spec]
           have hO : letters stop (c :: r) = .bad 10 (c :: r) := by simp only [letters, lettersGo]; rw [if_neg HST.out, if_neg H38.out, if_pos (.inr HTX.out)]
           rw [hO]
           exact ⟨rfl, by rw [HPP.out], (HL.out.drewN _).grown⟩
         · have HT : Hid (∀ w, Calls Tryz.prog 189 #[.int .u8 s[p].toNat] w fun e w' => e = .returned (.bool true) ∧ w = w') := fun w => by
            have := isText_any s[p] w
            rw [show cText s[p] = true by rw [HG.out, htx]] at this; exact this
           have HTX := Lib.hid htx
           clear htx
           go_wp2
           go_quiet ((go_at_call 120; exact HN.out _))
           go_wp2
           go_quiet (fail)
           go_wp2_with fail
           refine (HT.out _).mono ?_
           rintro e w' ⟨rfl, rfl⟩
           go_wp2_with fail
           refine (writeByte_any w.heap.size w.heap.size (Lib.byteCells acc) s[p].toNat _ (HL.out.drewN _).own (by simp [Lib.byteCells]; omega) hsz).mono ?_
           rintro e w4 ⟨rfl, hown4, hb4⟩
           have hb4' := (belowN (Below.refl w.heap.size wr) _).trans hb4
           have hR4 := HL.out.rd.belowB hb4' hlt0
           have c1 := hR4.c1
           have f1 := hR4.f1
           rw [HPP.out] at c1
           have hlt4 := hR4.box.lt
           have HB4 := Lib.hid hb4'
           have HW4 := Lib.hid hown4
           clear hR4 hb4 hown4 hb4'
           go_wp2
           have hnew : Lets w (w4.setCell ⟨b, 1, none⟩ (.int .i64 ((p : Int) + 1))) b s ov stop l r (acc ++ [c]) := by
            refine HL.out.step (t := [c]) HB4.out hlt0 (.inr (by have h := HW4.out; rw [HG.out] at h; rw [byteCells_snoc]; exact h)) HS.out (by rw [HC.out]; rfl) ?_ rfl ?_
            · simp only [letters, lettersGo]; rw [if_neg HST.out, if_neg H38.out, if_neg (by rintro (h | h); exact H60.out h; rw [HTX.out] at h; cases h)]; rfl
            · simp only [List.length_cons, List.length_nil]; omega
           go_roundw
           case rel => exact ⟨_, _, hnew⟩
           case measure => exact HL.out.less hnew (by simp)

end Go.Proofs.YtphaeegbmfpcgaaGreatDoor
