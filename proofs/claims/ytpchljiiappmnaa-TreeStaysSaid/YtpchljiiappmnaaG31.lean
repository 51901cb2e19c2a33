/- The document's reader in memory; walks of its fail, at, begins, end; the conditions stand in the theorems. -/
import Derived.Test.YtpchljiiappmnaaG4
import Derived.Test.YtpchljiiappmnaaG3
import Derived.Test.YtpchljiiappmnaaG16
import Derived.Laws.IdiomStrings
import Derived.Laws.BytesArg
namespace Go.Proofs.Ytpchljiiappmnaa
open Go Go.RowKit

/-- The document's reader: the text, what is left of it, what went wrong and where. -/
structure RR (w : World) (b : Nat) (s : S) (l : Bs) (x o : Int) : Prop where
  box : Box w b [.string s, .int .i64 (pos s l : Nat), .int .i64 x, .int .i64 o]
  suf : l <:+ s.data.toList
theorem RR.c0 {w : World} {b : Nat} {s : S} {l : Bs} {x o : Int} (h : RR w b s l x o) : w.cell? ⟨b, 0, none⟩ = some (.string s) := h.box.cell 0 _ rfl
theorem RR.c1 {w : World} {b : Nat} {s : S} {l : Bs} {x o : Int} (h : RR w b s l x o) : w.cell? ⟨b, 1, none⟩ = some (.int .i64 (pos s l : Nat)) := h.box.cell 1 _ rfl
theorem RR.c2 {w : World} {b : Nat} {s : S} {l : Bs} {x o : Int} (h : RR w b s l x o) : w.cell? ⟨b, 2, none⟩ = some (.int .i64 x) := h.box.cell 2 _ rfl
theorem RR.c3 {w : World} {b : Nat} {s : S} {l : Bs} {x o : Int} (h : RR w b s l x o) : w.cell? ⟨b, 3, none⟩ = some (.int .i64 o) := h.box.cell 3 _ rfl
theorem RR.below {w w' : World} {b : Nat} {s : S} {l : Bs} {x o : Int} (h : RR w b s l x o) (hb : Below w.heap.size w w') : RR w' b s l x o := ⟨h.box.below hb h.box.lt, h.suf⟩
theorem RR.belowB {w w' : World} {b B : Nat} {s : S} {l : Bs} {x o : Int} (h : RR w b s l x o) (hb : Below B w w') (hlt : b < B) : RR w' b s l x o := ⟨h.box.below hb hlt, h.suf⟩
theorem RR.drewN {w : World} {b : Nat} {s : S} {l : Bs} {x o : Int} (h : RR w b s l x o) (n : Nat) : RR (w.drewN n) b s l x o := ⟨h.box.drewN n, h.suf⟩
theorem RR.place {w : World} {b : Nat} {s : S} {l : Bs} {x o : Int} (h : RR w b s l x o) : placeOf w b = pos s l := by unfold placeOf; rw [h.c1]
theorem RR.move {w : World} {b : Nat} {s : S} {l : Bs} {x o : Int} (h : RR w b s l x o) {r : Bs} {v : Value} (hr : r <:+ s.data.toList) (hv : v = .int .i64 (pos s r : Nat)) : RR (w.setCell ⟨b, 1, none⟩ v) b s r x o := by
  subst hv
  exact ⟨h.box.set 1 _, hr⟩
theorem RR.bad {w : World} {b : Nat} {s : S} {l : Bs} {x o : Int} (h : RR w b s l x o) (x' o' : Int) : RR ((w.setCell ⟨b, 2, none⟩ (.int .i64 x')).setCell ⟨b, 3, none⟩ (.int .i64 o')) b s l x' o' :=
  ⟨(h.box.set 2 _).set 3 _, h.suf⟩

/-- The post of one of its methods: a value, what is left, what is wrong. -/
structure RGo (v : Value) (b : Nat) (s : S) (r : Bs) (x o : Int) (w : World) (e : Ending) (w' : World) : Prop where
  ret : e = .returned v
  rr : RR w' b s r x o
  grown : w.grownBy w' (some b)

set_option maxHeartbeats 1000000 in
theorem rfail_no (b : Nat) (s : S) (l : Bs) (x o x' o' : Int) (w : World) (h : RR w b s l x o) (hx : x ≠ 0) :
    Calls Try.prog 120 #[.pointer (some ⟨b, 0, none⟩), .int .i64 x', .int .i64 o'] w fun e w' => e = .returned (.tuple #[]) ∧ w = w' := by
  have c2 := h.c2
  have hlt := h.box.lt
  have e0 : (x == 0) = false := beq_eq_false_iff_ne.2 hx
  clear h hx
  go_enter Try.func120, Try.ntmps120
  go_wp2
  go_end0
  exact ⟨rfl, rfl⟩
set_option maxHeartbeats 1000000 in
theorem rfail_go (b : Nat) (s : S) (l : Bs) (o x' o' : Int) (w : World) (h : RR w b s l 0 o) :
    Calls Try.prog 120 #[.pointer (some ⟨b, 0, none⟩), .int .i64 x', .int .i64 o'] w (RGo (.tuple #[]) b s l x' o' w) := by
  have c2 := h.c2
  have c3 := h.c3
  have f2 := h.box.free 2
  have f3 := h.box.free 3
  have hlt := h.box.lt
  have HR := Lib.hid (h.bad x' o')
  clear h
  go_enter Try.func120, Try.ntmps120
  go_wp2
  go_end0
  exact ⟨rfl, HR.out, (setCell_grown w b 2 _).trans (setCell_grown _ b 3 _)⟩

/-- The byte with so many between; 0: there is none. -/
def atV (l : Bs) (k : Nat) : UInt8 := l[k]?.getD 0
set_option maxRecDepth 100000 in
set_option maxHeartbeats 1000000 in
theorem rat_any (b : Nat) (s : S) (l : Bs) (x o : Int) (k : Nat) (w : World) (h : RR w b s l x o) (hs : s.size ≤ 1000000) (hk : k ≤ 5) :
    Calls Try.prog 89 #[.pointer (some ⟨b, 0, none⟩), .int .i64 k] w (Qt (.int .u8 (atV l k).toNat) w) := by
  have c0 := h.c0
  have c1 := h.c1
  have hp := pos_add h.suf
  have hd := pos_drop h.suf
  have hlt := h.box.lt
  have HV : Hid (∀ hh : pos s l + k < s.size, atV l k = s[pos s l + k]) := fun hh => by
    unfold atV
    have h1 : l[k]? = some s[pos s l + k] := by
      have h2 := congrArg (fun z : Bs => z[k]?) hd
      simp only [List.getElem?_drop] at h2
      rw [← h2, List.getElem?_eq_getElem (by rw [size_data]; exact hh)]
      rfl
    rw [h1]; rfl
  have HV0 : Hid (¬ pos s l + k < s.size → atV l k = 0) := fun hh => by
    unfold atV
    rw [List.getElem?_eq_none (by omega)]; rfl
  clear h hd
  generalize pos s l = p at *
  by_cases hpk : p + k < s.size
  · have hi : (p : Int) + (k : Int) < (s.size : Int) := by omega
    have hi2 : ¬ (s.size : Int) ≤ (p : Int) + (k : Int) := by omega
    have HVV := Lib.hid (HV.out hpk)
    clear HV HV0
    obtain ⟨q, hq⟩ : ∃ q, q = p + k := ⟨_, rfl⟩
    have wq : IntKind.i64.wrap ((p : Int) + (k : Int)) = (q : Int) := by rw [IntWalk.i64_in _ (by omega)]; omega
    have hqs : q < s.size := by omega
    have hqi : (q : Int) < (s.size : Int) := by omega
    have hqd : decide (s.size ≤ q) = false := by rw [decide_eq_false_iff_not]; omega
    have HV2 : Hid (atV l k = s[q]) := by subst hq; exact HVV.out
    clear hq HVV
    go_enter Try.func89, Try.ntmps89
    go_wp2
    go_quiet (fail)
    go_wp2
    go_quiet (fail)
    go_wp2
    go_ret
    exact ⟨by rw [HV2.out]; rfl, _, World.drewN_drewN _ _ _⟩
  · have HVV := Lib.hid (HV0.out hpk)
    clear HV HV0
    obtain ⟨q, hq⟩ : ∃ q, q = p + k := ⟨_, rfl⟩
    have wq : IntKind.i64.wrap ((p : Int) + (k : Int)) = (q : Int) := by rw [IntWalk.i64_in _ (by omega)]; omega
    have hqd : decide (s.size ≤ q) = true := by rw [decide_eq_true_iff]; omega
    clear hq
    go_enter Try.func89, Try.ntmps89
    go_wp2
    go_quiet (fail)
    go_wp2
    go_ret
    exact ⟨by rw [HVV.out]; rfl, _, rfl⟩

end Go.Proofs.Ytpchljiiappmnaa

/- Walks of the document's reader: begins, end; the conditions stand in the theorems. -/
namespace Go.Proofs.Ytpchljiiappmnaa
open Go Go.RowKit

set_option maxRecDepth 100000 in
set_option maxHeartbeats 1000000 in
theorem rbegins_any (b : Nat) (s t : S) (l : Bs) (x o : Int) (w : World) (h : RR w b s l x o) (hs : s.size ≤ 1000000) :
    Calls Try.prog 87 #[.pointer (some ⟨b, 0, none⟩), .string t] w (Qt (.bool (t.data.toList.isPrefixOf l)) w) := by
  have c0 := h.c0
  have c1 := h.c1
  have hp := pos_add h.suf
  have hd := pos_drop h.suf
  have hlt := h.box.lt
  have hts := size_data t
  obtain ⟨m, hm⟩ : ∃ m, m = l.length := ⟨_, rfl⟩
  have HM := Lib.hid hm
  rw [← hm] at hp
  by_cases hk : t.size ≤ m
  · obtain ⟨q, hq⟩ : ∃ q, q = pos s l + t.size := ⟨_, rfl⟩
    have HV : Hid (((s.extract (pos s l) q).toList == t.toList) = t.data.toList.isPrefixOf l) := by
      show _ = _
      have h1 : s.extract (pos s l) q = bs (l.take t.size) := by rw [Lib.extract_eq, hd, hq, Nat.add_sub_cancel_left]; rfl
      have h2 := bs_beq (l.take t.size) t.data.toList
      rw [data_bs] at h2
      rw [h1, h2]
      rw [← hts]
      by_cases hpre : t.data.toList <+: l
      · rw [List.isPrefixOf_iff_prefix.2 hpre, decide_eq_true_iff]
        exact (List.prefix_iff_eq_take.1 hpre).symm
      · have : t.data.toList.isPrefixOf l = false := by
          cases hh : t.data.toList.isPrefixOf l
          · rfl
          · exact absurd (List.isPrefixOf_iff_prefix.1 hh) hpre
        rw [this, decide_eq_false_iff_not]
        intro h2
        exact hpre (List.prefix_iff_eq_take.2 h2.symm)
    clear h hd hm
    generalize pos s l = p at *
    have w1 : IntKind.i64.wrap ((s.size : Int) - (p : Int)) = (m : Int) := by rw [IntWalk.i64_in _ (by omega)]; omega
    have w2 : IntKind.i64.wrap ((p : Int) + (t.size : Int)) = (q : Int) := by rw [IntWalk.i64_in _ (by omega)]; omega
    have d1 : decide (t.size ≤ m) = true := by rw [decide_eq_true_iff]; exact hk
    have d2 : (p : Int) ≤ (q : Int) := by omega
    have d3 : (q : Int) ≤ (s.size : Int) := by omega
    clear hq hts
    go_enter Try.func87, Try.ntmps87
    go_wp2
    go_quiet (fail)
    go_wp2
    go_ret
    exact ⟨ret_bool HV.out, _, rfl⟩
  · have HV : Hid (t.data.toList.isPrefixOf l = false) := by
      show _ = _
      cases hh : t.data.toList.isPrefixOf l
      · rfl
      · have := (List.isPrefixOf_iff_prefix.1 hh).length_le
        omega
    clear h hd hm
    generalize pos s l = p at *
    have w1 : IntKind.i64.wrap ((s.size : Int) - (p : Int)) = (m : Int) := by rw [IntWalk.i64_in _ (by omega)]; omega
    have d1 : decide (t.size ≤ m) = false := by rw [decide_eq_false_iff_not]; exact hk
    clear hts
    go_enter Try.func87, Try.ntmps87
    go_wp2
    go_quiet (fail)
    go_wp2
    go_ret
    exact ⟨ret_bool HV.out.symm, _, rfl⟩

set_option maxHeartbeats 1000000 in
theorem rend_no (b : Nat) (s : S) (c : UInt8) (l : Bs) (w : World) (o : Int) (h : RR w b s (c :: l) 0 o) :
    Calls Try.prog 119 #[.pointer (some ⟨b, 0, none⟩)] w (Qt (.bool false) w) := by
  have c0 := h.c0
  have c1 := h.c1
  have c2 := h.c2
  have hlt := h.box.lt
  have hpl := pos_lt h.suf
  have HR := Lib.hid h
  clear h
  generalize pos s (c :: l) = p at *
  have d1 : decide (s.size ≤ p) = false := by rw [decide_eq_false_iff_not]; omega
  clear c2
  go_enter Try.func119, Try.ntmps119
  go_wp2
  go_quiet (fail)
  have c2 := (HR.out.drewN nq).c2
  go_wp2
  go_ret
  exact ⟨rfl, _, rfl⟩

set_option maxHeartbeats 1000000 in
theorem rend_bad (b : Nat) (s : S) (l : Bs) (x o : Int) (w : World) (h : RR w b s l x o) (hx : x ≠ 0) :
    Calls Try.prog 119 #[.pointer (some ⟨b, 0, none⟩)] w (Qt (.bool true) w) := by
  have c0 := h.c0
  have c1 := h.c1
  have hlt := h.box.lt
  have hp := pos_add h.suf
  have HR := Lib.hid h
  have HX : Hid (x ≠ 0) := hx
  have HF : Hid (∀ n y z, Calls Try.prog 120 #[.pointer (some ⟨b, 0, none⟩), .int .i64 y, .int .i64 z] (w.drewN n) fun e w' => e = .returned (.tuple #[]) ∧ (w.drewN n) = w') := fun n y z => rfail_no b s l x o y z (w.drewN n) (h.drewN n) hx
  clear h hx
  generalize pos s l = p at *
  by_cases hh : s.size ≤ p
  · have d1 : decide (s.size ≤ p) = true := by rw [decide_eq_true_iff]; exact hh
    go_enter Try.func119, Try.ntmps119
    go_wp2
    go_quiet (fail)
    have c0 := (HR.out.drewN nq).c0
    go_wp2_with fail
    refine (HF.out _ _ _).mono ?_
    rintro e w' ⟨rfl, rfl⟩
    have c2 := (HR.out.drewN nq).c2
    go_wp2
    go_ret
    exact ⟨ret_bool (by simp; exact HX.out), _, rfl⟩
  · have d1 : decide (s.size ≤ p) = false := by rw [decide_eq_false_iff_not]; exact hh
    go_enter Try.func119, Try.ntmps119
    go_wp2
    go_quiet (fail)
    have c2 := (HR.out.drewN nq).c2
    go_wp2
    go_ret
    exact ⟨ret_bool (by simp; exact HX.out), _, rfl⟩

set_option maxHeartbeats 1000000 in
theorem rend_end (b : Nat) (s : S) (o : Int) (w : World) (h : RR w b s [] 0 o) :
    Calls Try.prog 119 #[.pointer (some ⟨b, 0, none⟩)] w (RGo (.bool true) b s [] 13 s.size w) := by
  have c0 := h.c0
  have c1 := h.c1
  have hlt := h.box.lt
  have hp := pos_add h.suf
  have HR := Lib.hid h
  have HF : Hid (∀ n z, Calls Try.prog 120 #[.pointer (some ⟨b, 0, none⟩), .int .i64 13, .int .i64 z] (w.drewN n) (RGo (.tuple #[]) b s [] 13 z (w.drewN n))) := fun n z => rfail_go b s [] o 13 z (w.drewN n) (h.drewN n)
  clear h
  generalize pos s [] = p at *
  have d1 : decide (s.size ≤ p) = true := by rw [decide_eq_true_iff]; simp at hp; omega
  go_enter Try.func119, Try.ntmps119
  go_wp2
  go_quiet (fail)
  have c0 := (HR.out.drewN nq).c0
  go_wp2_with fail
  refine (HF.out _ _).mono ?_
  rintro e w' ⟨rfl, hR, hG⟩
  have c2 := hR.c2
  have hlt2 := hR.box.lt
  have HR2 := Lib.hid hR
  have HG := Lib.hid hG
  clear hR hG
  go_wp2
  go_ret
  exact ⟨rfl, HR2.out, (grownN w _ _).trans HG.out⟩

end Go.Proofs.Ytpchljiiappmnaa

/- Walks of the document's reader: blanks, want, name; the conditions stand in the theorems. -/
namespace Go.Proofs.Ytpchljiiappmnaa
open Go Go.RowKit

set_option maxRecDepth 100000 in
set_option maxHeartbeats 2000000 in
theorem rblanks_any (b : Nat) (s : S) (l : Bs) (x o : Int) (w : World) (h : RR w b s l x o) (hs : s.size ≤ 1000000) :
    Calls Try.prog 92 #[.pointer (some ⟨b, 0, none⟩)] w (RGo (.tuple #[]) b s (blanks l) x o w) := by
  have HH := Lib.hid h
  clear h
  go_enter Try.func92, Try.ntmps92
  go_wp2
  go_loopw [] (fun wr => ∃ l', RR wr b s l' x o ∧ w.grownBy wr (some b) ∧ Hid (blanks l = blanks l')) (fun wr => s.size - (placeOf wr b).toNat)
  case atStart => exact ⟨l, HH.out, World.grownBy.refl _ _, rfl⟩
  case round =>
    obtain ⟨l', hR, hg, HB⟩ := hrel
    have HR := Lib.hid hR
    have c0 := hR.c0
    have c1 := hR.c1
    have f1 := hR.box.free 1
    have hlt := hR.box.lt
    have hpl := hR.place
    have HPL := Lib.hid hpl
    have hp := pos_add hR.suf
    clear hpl
    cases l' with
    | nil =>
      have hp' : pos s [] = s.size := pos_nil s
      clear hR hp
      rw [hp'] at c1
      go_wp2
      go_quiet (fail)
      go_wp2
      go_end0
      have hbl : blanks l = [] := HB.out
      refine ⟨rfl, ?_, hg.trans (grownN wr nq _)⟩
      rw [hbl]; exact HR.out.drewN nq
    | cons c r =>
      have hpl := pos_lt hR.suf
      have HG := Lib.hid (pos_get hR.suf hpl)
      have HC := Lib.hid (pos_cons hR.suf)
      have hsuf := suf_tail hR.suf
      have HS := Lib.hid hsuf
      clear hR hp hsuf
      generalize hpp : pos s (c :: r) = p at *
      have HPP := Lib.hid hpp
      clear hpp
      have hpi : (p : Int) < (s.size : Int) := by omega
      have hpb : (p : Int) + 1 ≤ 9223372036854775807 := by omega
      have d1 : decide (p < s.size) = true := by rw [decide_eq_true_iff]; exact hpl
      have w1 : IntKind.i64.wrap ((p : Int) + 1) = (p : Int) + 1 := IntWalk.i64_in _ (by omega)
      cases hcb : cBlank c
      all_goals
        have HI : Hid (∀ n, Calls Try.prog 26 #[.int .u8 s[p].toNat, .int .i64 1] (wr.drewN n) fun e w'' => e = .returned (.bool _) ∧ ∃ m, w'' = wr.drewN m) := fun n => quietS (by have := is1_any s[p] (wr.drewN n); rw [HG.out, hcb] at this; rw [HG.out]; exact this)
        have HCB := Lib.hid hcb
        clear hcb
        go_wp2
        go_quiet ((go_at_call 26; exact HI.out _))
        go_wp2
      · go_end0
        have hbl : blanks l = c :: r := by rw [HB.out]; simp [blanks, HCB.out]
        refine ⟨rfl, ?_, hg.trans (grownN wr nq _)⟩
        rw [hbl]; exact HR.out.drewN nq
      · go_roundw
        case rel =>
          refine ⟨r, (HR.out.drewN nq).move HS.out (by rw [HC.out]; rfl), ?_, ?_⟩
          · exact (hg.trans (grownN wr nq _)).trans (setCell_grown _ b 1 _)
          · show _ = _; rw [HB.out]; simp [blanks, HCB.out]
        case measure =>
          have h3 : placeOf ((wr.drewN nq).setCell ⟨b, 1, none⟩ (.int .i64 ((p : Int) + 1))) b = (p : Int) + 1 := by
            have := ((HR.out.drewN nq).move HS.out (v := .int .i64 ((p : Int) + 1)) (by rw [HC.out]; rfl)).place
            rw [this, HC.out]; omega
          rw [h3, HPL.out]; omega

end Go.Proofs.Ytpchljiiappmnaa

/- Walks of the document's reader: want, name; the conditions stand in the theorems. -/
namespace Go.Proofs.Ytpchljiiappmnaa
open Go Go.RowKit

/-- The post of a method: what is read, or what goes wrong. -/
def ROut {α : Type} (f : α → Value) (d : Value) (b : Nat) (s : S) (w : World) : Res α → Ending → World → Prop
  | .ok a r => RGo (f a) b s r 0 0 w
  | .bad e r => fun x w' => ∃ l', RGo d b s l' e (pos s r : Nat) w x w'

theorem ne_u8 {x c : UInt8} (h : x ≠ c) : ((x.toNat : Int) == (c.toNat : Int)) = false := by
  rw [beq_eq_false_iff_ne]
  intro h2
  exact h (UInt8.toNat_inj.1 (by omega))

set_option maxHeartbeats 1000000 in
theorem rwant_bad (b : Nat) (s : S) (c : UInt8) (l : Bs) (x o : Int) (w : World) (h : RR w b s l x o) (hx : x ≠ 0) :
    Calls Try.prog 93 #[.pointer (some ⟨b, 0, none⟩), .int .u8 c.toNat] w (RGo (.tuple #[]) b s l x o w) := by
  have HN : Hid (Calls Try.prog 119 #[.pointer (some ⟨b, 0, none⟩)] w (Qt (.bool true) w)) := rend_bad b s l x o w h hx
  have HR := Lib.hid h
  clear h hx
  go_enter Try.func93, Try.ntmps93
  go_wp2_with fail
  refine HN.out.mono ?_
  rintro e w' ⟨rfl, n, rfl⟩
  go_wp2
  go_end0
  exact ⟨rfl, HR.out.drewN n, grownN w n _⟩

set_option maxRecDepth 100000 in
set_option maxHeartbeats 1000000 in
theorem rwant_any (b : Nat) (s : S) (c : UInt8) (l : Bs) (w : World) (h : RR w b s l 0 0) (hs : s.size ≤ 1000000) :
    Calls Try.prog 93 #[.pointer (some ⟨b, 0, none⟩), .int .u8 c.toNat] w (ROut (fun _ => .tuple #[]) (.tuple #[]) b s w (wantC c l)) := by
  cases l with
  | nil =>
    have HN : Hid (Calls Try.prog 119 #[.pointer (some ⟨b, 0, none⟩)] w (RGo (.bool true) b s [] 13 s.size w)) := rend_end b s 0 w h
    clear h
    go_enter Try.func93, Try.ntmps93
    go_wp2_with fail
    refine HN.out.mono ?_
    rintro e w' ⟨rfl, hR, hG⟩
    go_wp2
    go_end0
    exact ⟨[], rfl, by rw [pos_nil]; exact hR, hG⟩
  | cons x r =>
    have HN : Hid (Calls Try.prog 119 #[.pointer (some ⟨b, 0, none⟩)] w (Qt (.bool false) w)) := rend_no b s x r w 0 h
    have HA : Hid (∀ n, Calls Try.prog 89 #[.pointer (some ⟨b, 0, none⟩), .int .i64 0] (w.drewN n) (Qt (.int .u8 x.toNat) (w.drewN n))) := fun n => rat_any b s (x :: r) 0 0 0 (w.drewN n) (h.drewN n) hs (by omega)
    have HF : Hid (∀ n z, Calls Try.prog 120 #[.pointer (some ⟨b, 0, none⟩), .int .i64 10, .int .i64 z] (w.drewN n) (RGo (.tuple #[]) b s (x :: r) 10 z (w.drewN n))) := fun n z => rfail_go b s (x :: r) 0 10 z (w.drewN n) (h.drewN n)
    have HC := Lib.hid (pos_cons h.suf)
    have HS := Lib.hid (suf_tail h.suf)
    have hpl := pos_lt h.suf
    have hlt := h.box.lt
    have HR := Lib.hid h
    clear h
    generalize hpp : pos s (x :: r) = p at *
    have HPP := Lib.hid hpp
    clear hpp
    have w1 : IntKind.i64.wrap ((p : Int) + 1) = (p : Int) + 1 := IntWalk.i64_in _ (by omega)
    by_cases hx : x = c
    · subst hx
      simp only [wantC, if_true]
      go_enter Try.func93, Try.ntmps93
      go_wp2_with fail
      refine HN.out.mono ?_
      rintro e w' ⟨rfl, n, rfl⟩
      go_wp2_with fail
      refine (HA.out _).mono ?_
      rintro e w' ⟨rfl, n2, rfl⟩
      have c1 := (HR.out.drewN (n + n2)).c1
      rw [HPP.out] at c1
      have f1 := (HR.out.drewN (n + n2)).box.free 1
      go_wp2
      go_end0
      refine ⟨rfl, ?_, ?_⟩
      · exact (HR.out.drewN _).move HS.out (v := .int .i64 ((p : Int) + 1)) (by rw [HC.out]; rfl)
      · exact (grownN w _ _).trans (setCell_grown _ b 1 _)
    · simp only [wantC, hx, if_false]
      have e1 := ne_u8 hx
      clear hx
      go_enter Try.func93, Try.ntmps93
      go_wp2_with fail
      refine HN.out.mono ?_
      rintro e w' ⟨rfl, n, rfl⟩
      go_wp2_with fail
      refine (HA.out _).mono ?_
      rintro e w' ⟨rfl, n2, rfl⟩
      have c1 := (HR.out.drewN (n + n2)).c1
      rw [HPP.out] at c1
      go_wp2_with fail
      refine ((HF.out _ _)).mono ?_
      rintro e w' ⟨rfl, hR, hG⟩
      go_wp2
      go_end0
      exact ⟨x :: r, rfl, by rw [HPP.out]; exact hR, (grownN w _ _).trans hG⟩

end Go.Proofs.Ytpchljiiappmnaa

/- Walks of the document's reader: name; the conditions stand in the theorems. -/
namespace Go.Proofs.Ytpchljiiappmnaa
open Go Go.RowKit

set_option maxHeartbeats 1000000 in
theorem rrname_bad (b : Nat) (s : S) (y : Int) (l : Bs) (x o : Int) (w : World) (h : RR w b s l x o) (hx : x ≠ 0) :
    Calls Try.prog 91 #[.pointer (some ⟨b, 0, none⟩), .int .i64 y] w (RGo (.string ⟨#[]⟩) b s l x o w) := by
  have HN : Hid (Calls Try.prog 119 #[.pointer (some ⟨b, 0, none⟩)] w (Qt (.bool true) w)) := rend_bad b s l x o w h hx
  have HR := Lib.hid h
  clear h hx
  go_enter Try.func91, Try.ntmps91
  go_wp2_with fail
  refine HN.out.mono ?_
  rintro e w' ⟨rfl, n, rfl⟩
  go_wp2
  go_ret
  exact ⟨rfl, HR.out.drewN n, grownN w n _⟩

set_option maxRecDepth 100000 in
set_option maxHeartbeats 2000000 in
theorem rrname_any (b : Nat) (s : S) (y : Int) (l : Bs) (w : World) (h : RR w b s l 0 0) (hs : s.size ≤ 1000000) :
    Calls Try.prog 91 #[.pointer (some ⟨b, 0, none⟩), .int .i64 y] w (ROut (fun n => .string (bs n)) (.string ⟨#[]⟩) b s w (nameR y l)) := by
  cases l with
  | nil =>
    have HN : Hid (Calls Try.prog 119 #[.pointer (some ⟨b, 0, none⟩)] w (RGo (.bool true) b s [] 13 s.size w)) := rend_end b s 0 w h
    clear h
    go_enter Try.func91, Try.ntmps91
    go_wp2_with fail
    refine HN.out.mono ?_
    rintro e w' ⟨rfl, hR, hG⟩
    go_wp2
    go_ret
    exact ⟨[], rfl, by rw [pos_nil]; exact hR, hG⟩
  | cons c l =>
    have HN : Hid (Calls Try.prog 119 #[.pointer (some ⟨b, 0, none⟩)] w (Qt (.bool false) w)) := rend_no b s c l w 0 h
    have hle := pos_add h.suf
    have HM : Hid (∀ (W : World) n, Calls Try.prog 25 #[.string (s.extract (pos s (c :: l)) s.size)] (W.drewN n) fun e w'' => e = .returned (.int .i64 (nameLen (c :: l))) ∧ ∃ m, w'' = W.drewN m) := fun W n => quietS (by
      have := refName_any (bs (c :: l)) (W.drewN n) (by rw [bs_size]; omega)
      rw [bs_data] at this
      rw [pos_extract h.suf]; exact this)
    have HF : Hid (∀ (W : World) z, RR W b s (c :: l) 0 0 → Calls Try.prog 120 #[.pointer (some ⟨b, 0, none⟩), .int .i64 y, .int .i64 z] W (RGo (.tuple #[]) b s (c :: l) y z W)) := fun W z hW => rfail_go b s (c :: l) 0 y z W hW
    have hlt := h.box.lt
    have HR := Lib.hid h
    have c0 := h.c0
    have c1 := h.c1
    by_cases h0 : nameLen (c :: l) = 0
    · have e0 : ((nameLen (c :: l) : Int) == 0) = true := beq_iff_eq.2 (by omega)
      have HO : Hid (nameR y (c :: l) = .bad y (c :: l)) := by show _ = _; simp only [nameR, h0, if_true]
      clear h h0
      have hle2 : pos s (c :: l) ≤ s.size := by omega
      clear hle
      generalize nameLen (c :: l) = k at *
      generalize hpp : pos s (c :: l) = p at *
      have HPP := Lib.hid hpp
      clear hpp
      have hli : (p : Int) ≤ (s.size : Int) := by omega
      go_enter Try.func91, Try.ntmps91
      go_wp2_with fail
      refine HN.out.mono ?_
      rintro e W0 ⟨rfl, n, hW0⟩
      have hR0 : RR W0 b s (c :: l) 0 0 := by rw [hW0]; exact HR.out.drewN n
      have hG0 : Hid (w.grownBy W0 (some b)) := by rw [hW0]; exact grownN w n _
      clear hW0 c0 c1
      have c0 := hR0.c0
      have c1 := hR0.c1
      rw [HPP.out] at c1
      have f1 := hR0.box.free 1
      have hlt0 := hR0.box.lt
      have HR0 := Lib.hid hR0
      clear hR0
      go_wp2
      go_quiet ((go_at_call 25; exact (HM.out _ _)))
      go_wp2_with fail
      refine (HF.out _ _ (HR0.out.drewN _)).mono ?_
      rintro e w' ⟨rfl, hR, hG⟩
      go_wp2
      go_ret
      rw [HO.out]
      exact ⟨c :: l, rfl, by rw [HPP.out]; exact hR, hG0.out.trans ((grownN W0 _ _).trans hG)⟩
    · have e0 : ((nameLen (c :: l) : Int) == 0) = false := beq_eq_false_iff_ne.2 (by omega)
      have HO : Hid (nameR y (c :: l) = .ok ((c :: l).take (nameLen (c :: l))) ((c :: l).drop (nameLen (c :: l)))) := by show _ = _; simp only [nameR, h0, if_false]
      have hnl := nameLen_le (c :: l)
      have hsuf := (List.drop_suffix (nameLen (c :: l)) (c :: l)).trans h.suf
      have hp2 : pos s ((c :: l).drop (nameLen (c :: l))) = pos s (c :: l) + nameLen (c :: l) := by
        have := pos_add hsuf; rw [List.length_drop] at this; omega
      have HX : Hid (s.extract (pos s (c :: l)) (pos s (c :: l) + nameLen (c :: l)) = bs ((c :: l).take (nameLen (c :: l)))) := by
        show _ = _
        rw [Lib.extract_eq, pos_drop h.suf, Nat.add_sub_cancel_left]; rfl
      have HP2 := Lib.hid hp2
      have HS := Lib.hid hsuf
      have hle2 : pos s (c :: l) + nameLen (c :: l) ≤ s.size := by omega
      clear h h0 hle hp2 hsuf hnl
      generalize nameLen (c :: l) = k at *
      generalize hpp : pos s (c :: l) = p at *
      have HPP := Lib.hid hpp
      clear hpp
      have hli : (p : Int) ≤ (s.size : Int) := by omega
      have w0 : IntKind.i64.wrap ((p : Int) + (k : Int)) = ((p + k : Nat) : Int) := by rw [IntWalk.i64_in _ (by omega)]; omega
      go_enter Try.func91, Try.ntmps91
      go_wp2_with fail
      refine HN.out.mono ?_
      rintro e W0 ⟨rfl, n, hW0⟩
      have hR0 : RR W0 b s (c :: l) 0 0 := by rw [hW0]; exact HR.out.drewN n
      have hG0 : Hid (w.grownBy W0 (some b)) := by rw [hW0]; exact grownN w n _
      clear hW0 c0 c1
      have c0 := hR0.c0
      have c1 := hR0.c1
      rw [HPP.out] at c1
      have f1 := hR0.box.free 1
      have hlt0 := hR0.box.lt
      have HR0 := Lib.hid hR0
      clear hR0
      go_wp2
      go_quiet ((go_at_call 25; exact (HM.out _ _)))
      go_wp2
      refine wp_world ?_
      intro W hW
      have hR : RR W b s ((c :: l).drop k) 0 0 := by rw [hW]; exact (HR0.out.drewN _).move HS.out (v := .int .i64 ((p : Int) + k)) (by rw [HP2.out]; rfl)
      have hG : Hid (w.grownBy W (some b)) := by rw [hW]; exact hG0.out.trans ((grownN W0 _ _).trans (setCell_grown _ b 1 _))
      clear hW c0 c1 f1 hlt0
      have c0 := hR.c0
      have c1 := hR.c1
      rw [HP2.out] at c1
      have hlt2 := hR.box.lt
      have HR2 := Lib.hid hR
      clear hR
      have w1 : IntKind.i64.wrap (((p + k : Nat) : Int) - (k : Int)) = (p : Int) := by rw [show ((p + k : Nat) : Int) - (k : Int) = (p : Int) by omega]; exact IntWalk.i64_in _ (by omega)
      have w2 : (p : Int) ≤ ((p + k : Nat) : Int) := by omega
      have w3 : ((p + k : Nat) : Int) ≤ (s.size : Int) := by omega
      go_quiet (fail)
      go_wp2
      go_ret
      rw [HO.out]
      exact ⟨by rw [HX.out]; rfl, HR2.out.drewN nq, hG.out.trans (grownN W nq _)⟩

end Go.Proofs.Ytpchljiiappmnaa

/- Walks of the document's reader: plain; the conditions stand in the theorems. -/
namespace Go.Proofs.Ytpchljiiappmnaa
open Go Go.RowKit

theorem plain_pre {til l : Bs} (h : til.isPrefixOf l = true) : plain til l = .ok [] (l.drop til.length) := by
  cases l <;> simp only [plain, h, if_true]
theorem plain_end {til : Bs} (h : til.isPrefixOf [] = false) : plain til [] = .bad 13 [] := by
  simp [plain, h]
theorem plain_no {til l : Bs} {c : UInt8} (h : til.isPrefixOf (c :: l) = false) (hc : cText c = false) : plain til (c :: l) = .bad 10 (c :: l) := by
  simp [plain, h, hc]
theorem plain_go {til l : Bs} {c : UInt8} (h : til.isPrefixOf (c :: l) = false) (hc : cText c = true) : plain til (c :: l) = (plain til l).map (c :: ·) := by
  simp [plain, h, hc]
theorem map_map_app {til l0 l : Bs} {pre : Bs} {c : UInt8} (h : plain til l0 = (plain til (c :: l)).map (pre ++ ·)) (h2 : plain til (c :: l) = (plain til l).map (c :: ·)) : plain til l0 = (plain til l).map ((pre ++ [c]) ++ ·) := by
  rw [h, h2]
  cases plain til l <;> simp [Res.map]

set_option maxRecDepth 100000 in
set_option maxHeartbeats 4000000 in
theorem rplain_any (b : Nat) (s t : S) (l : Bs) (k : Nat) (w : World) (h : RR w b s l 0 0) (hs : s.size ≤ 1000000) (hk : k ≤ l.length) (ht : t.size ≤ 1000000) :
    Calls Try.prog 88 #[.pointer (some ⟨b, 0, none⟩), .int .i64 k, .string t] w (ROut (fun n => .string (bs n)) (.string ⟨#[]⟩) b s w (plain t.data.toList (l.drop k))) := by
  have HH := Lib.hid h
  have c1 := h.c1
  have f1 := h.box.free 1
  have hlt := h.box.lt
  obtain ⟨l0, hl0⟩ : ∃ l0, l0 = l.drop k := ⟨_, rfl⟩
  have hsuf0 : l0 <:+ s.data.toList := by rw [hl0]; exact (List.drop_suffix k l).trans h.suf
  obtain ⟨q, hq⟩ : ∃ q, q = pos s l0 := ⟨_, rfl⟩
  have hq2 : pos s l + k = q := by
    have h1 := pos_add hsuf0
    have h2 := pos_add h.suf
    rw [hq]; rw [hl0] at h1 ⊢; rw [List.length_drop] at h1; omega
  have HQ := Lib.hid hq
  have HS0 := Lib.hid hsuf0
  have hqs : q ≤ s.size := by have := pos_add hsuf0; omega
  have w0 : IntKind.i64.wrap ((pos s l : Int) + (k : Int)) = (q : Int) := by rw [IntWalk.i64_in _ (by omega)]; omega
  rw [← hl0]
  clear h hl0 hsuf0 hq hq2 hk
  generalize pos s l = p at *
  go_enter Try.func88, Try.ntmps88
  go_wp2
  clear c1 f1 w0 hlt
  go_loopw [] (fun wr => ∃ l' pre, RR wr b s l' 0 0 ∧ w.grownBy wr (some b) ∧ Hid (l0 = pre ++ l') ∧ Hid (plain t.data.toList l0 = (plain t.data.toList l').map (pre ++ ·))) (fun wr => s.size - (placeOf wr b).toNat)
  case atStart =>
    refine ⟨l0, [], HH.out.move HS0.out (by rw [← HQ.out]), setCell_grown _ b 1 _, rfl, ?_⟩
    show _ = _
    cases plain t.data.toList l0 <;> rfl
  case round =>
    obtain ⟨l', pre, hR, hg, HL, HB⟩ := hrel
    have HR := Lib.hid hR
    have HG := Lib.hid hg
    have HN : Hid (Calls Try.prog 87 #[.pointer (some ⟨b, 0, none⟩), .string t] wr (Qt (.bool (t.data.toList.isPrefixOf l')) wr)) := rbegins_any b s t l' 0 0 wr hR hs
    have hp := pos_add hR.suf
    have HP := Lib.hid hp
    have HPL := Lib.hid hR.place
    clear hR hg hp
    cases hpre : t.data.toList.isPrefixOf l'
    · have HPRE := Lib.hid hpre
      rw [hpre] at HN
      clear hpre
      cases l' with
      | nil =>
        go_wp2_with fail
        refine HN.out.mono ?_
        rintro e W ⟨rfl, n, hW⟩
        have hR1 : RR W b s [] 0 0 := by rw [hW]; exact HR.out.drewN n
        have hG1 : Hid (w.grownBy W (some b)) := by rw [hW]; exact HG.out.trans (grownN wr n _)
        clear hW
        have HE : Hid (Calls Try.prog 119 #[.pointer (some ⟨b, 0, none⟩)] W (RGo (.bool true) b s [] 13 s.size W)) := rend_end b s 0 W hR1
        clear hR1
        go_wp2_with fail
        refine HE.out.mono ?_
        rintro e w2 ⟨rfl, hR2, hG2⟩
        have HR2 := Lib.hid hR2
        have HG2 := Lib.hid hG2
        clear hR2 hG2
        go_wp2
        go_ret
        have hO : plain t.data.toList l0 = .bad 13 [] := by rw [HB.out, plain_end HPRE.out]; rfl
        rw [hO]
        exact ⟨[], rfl, by rw [pos_nil]; exact HR2.out, hG1.out.trans HG2.out⟩
      | cons c r =>
        go_wp2_with fail
        refine HN.out.mono ?_
        rintro e W ⟨rfl, n, hW⟩
        have hR1 : RR W b s (c :: r) 0 0 := by rw [hW]; exact HR.out.drewN n
        have hG1 : Hid (w.grownBy W (some b)) := by rw [hW]; exact HG.out.trans (grownN wr n _)
        clear hW
        have HE : Hid (Calls Try.prog 119 #[.pointer (some ⟨b, 0, none⟩)] W (Qt (.bool false) W)) := rend_no b s c r W 0 hR1
        have HR1 := Lib.hid hR1
        clear hR1
        go_wp2_with fail
        refine HE.out.mono ?_
        rintro e W2 ⟨rfl, n, hW⟩
        have hR2 : RR W2 b s (c :: r) 0 0 := by rw [hW]; exact HR1.out.drewN n
        have hG2 : Hid (w.grownBy W2 (some b)) := by rw [hW]; exact hG1.out.trans (grownN W n _)
        clear hW HE
        have c0 := hR2.c0
        have c1 := hR2.c1
        have f1 := hR2.box.free 1
        have hlt := hR2.box.lt
        have hpl := pos_lt hR2.suf
        have HGT := Lib.hid (pos_get hR2.suf hpl)
        have HC := Lib.hid (pos_cons hR2.suf)
        have HS := Lib.hid (suf_tail hR2.suf)
        have HR2 := Lib.hid hR2
        clear hR2
        generalize hpp : pos s (c :: r) = p at *
        have HPP := Lib.hid hpp
        clear hpp
        have hpi : (p : Int) < (s.size : Int) := by omega
        have w1 : IntKind.i64.wrap ((p : Int) + 1) = (p : Int) + 1 := IntWalk.i64_in _ (by omega)
        have HF : Hid (∀ (W : World) z, RR W b s (c :: r) 0 0 → Calls Try.prog 120 #[.pointer (some ⟨b, 0, none⟩), .int .i64 10, .int .i64 z] W (RGo (.tuple #[]) b s (c :: r) 10 z W)) := fun W z hW => rfail_go b s (c :: r) 0 10 z W hW
        cases hcb : cText c
        all_goals
          have HI : Hid (∀ (W : World) n, Calls Try.prog 26 #[.int .u8 s[p].toNat, .int .i64 16] (W.drewN n) fun e w'' => e = .returned (.bool _) ∧ ∃ m, w'' = W.drewN m) := fun W n => quietS (by have := is16_any s[p] (W.drewN n); rw [HGT.out, hcb] at this; rw [HGT.out]; exact this)
          have HCB := Lib.hid hcb
          clear hcb
          go_wp2
          go_quiet ((go_at_call 26; exact HI.out _ _))
        · go_wp2_with fail
          refine (HF.out _ _ (HR2.out.drewN _)).mono ?_
          rintro e w3 ⟨rfl, hR3, hG3⟩
          have HR3 := Lib.hid hR3
          have HG3 := Lib.hid hG3
          clear hR3 hG3
          go_wp2
          go_ret
          have hO : plain t.data.toList l0 = .bad 10 (c :: r) := by rw [HB.out, plain_no HPRE.out HCB.out]; rfl
          rw [hO]
          exact ⟨c :: r, rfl, by rw [HPP.out]; exact HR3.out, hG2.out.trans ((grownN W2 _ _).trans HG3.out)⟩
        · go_wp2
          go_roundw
          case rel =>
            refine ⟨r, pre ++ [c], (HR2.out.drewN _).move HS.out (by rw [HC.out]; rfl), hG2.out.trans ((grownN W2 _ _).trans (setCell_grown _ b 1 _)), ?_, ?_⟩
            · show _ = _; rw [HL.out]; simp
            · exact map_map_app HB.out (plain_go HPRE.out HCB.out)
          case measure =>
            have h3 : placeOf ((W2.drewN nq).setCell ⟨b, 1, none⟩ (.int .i64 ((p : Int) + 1))) b = (p : Int) + 1 := by
              have := ((HR2.out.drewN nq).move HS.out (v := .int .i64 ((p : Int) + 1)) (by rw [HC.out]; rfl)).place
              rw [this, HC.out]; omega
            rw [h3, HPL.out]; omega
    · have HPRE := Lib.hid hpre
      rw [hpre] at HN
      have hlen := (List.isPrefixOf_iff_prefix.1 hpre).length_le
      rw [size_data] at hlen
      clear hpre
      go_wp2_with fail
      refine HN.out.mono ?_
      rintro e W ⟨rfl, n, hW⟩
      have hR1 : RR W b s l' 0 0 := by rw [hW]; exact HR.out.drewN n
      have hG1 : Hid (w.grownBy W (some b)) := by rw [hW]; exact HG.out.trans (grownN wr n _)
      clear hW
      have c0 := hR1.c0
      have c1 := hR1.c1
      have f1 := hR1.box.free 1
      have hlt := hR1.box.lt
      have hsd : l'.drop t.size <:+ s.data.toList := (List.drop_suffix t.size l').trans hR1.suf
      have HS := Lib.hid hsd
      have hp2 : pos s (l'.drop t.size) = pos s l' + t.size := by
        have h1 := pos_add hsd; have h2 := pos_add hR1.suf; rw [List.length_drop] at h1; omega
      have hp3 : pos s l' = q + pre.length := by
        have h1 := pos_add HS0.out; have h2 := pos_add hR1.suf; rw [← HQ.out] at h1; rw [HL.out, List.length_append] at h1; omega
      have HX : Hid (s.extract q (pos s l') = bs pre) := by
        show _ = _
        rw [hp3, Lib.extract_eq, HQ.out, pos_drop HS0.out, Nat.add_sub_cancel_left, HL.out, List.take_left']
        · rfl
        · rfl
      have HP2 := Lib.hid hp2
      have hps : pos s l' ≤ s.size := by have := pos_add hR1.suf; omega
      have hqp : q ≤ pos s l' := by omega
      have HR1 := Lib.hid hR1
      clear hR1 hsd hp2 hp3 hlen
      generalize pos s l' = p at *
      have d1 : (q : Int) ≤ (p : Int) := by omega
      have d2 : (p : Int) ≤ (s.size : Int) := by omega
      have w1 : IntKind.i64.wrap ((p : Int) + (t.size : Int)) = (p : Int) + (t.size : Int) := IntWalk.i64_in _ (by omega)
      go_wp2
      go_quiet (fail)
      go_wp2
      go_ret
      have hO : plain t.data.toList l0 = .ok pre (l'.drop t.size) := by rw [HB.out, plain_pre HPRE.out, ← size_data t]; simp [Res.map]
      rw [hO]
      exact ⟨by rw [HX.out]; rfl, (HR1.out.drewN _).move HS.out (by rw [HP2.out]; rfl), hG1.out.trans ((grownN W _ _).trans (setCell_grown _ b 1 _))⟩

end Go.Proofs.Ytpchljiiappmnaa

/- Walks of the document's begins and Letter; the conditions stand in the theorems. -/
namespace Go.Proofs.Ytpchljiiappmnaa
open Go Go.RowKit

theorem take_pre (l t : Bs) : decide (l.take t.length = t) = t.isPrefixOf l := by
  by_cases hpre : t <+: l
  · rw [List.isPrefixOf_iff_prefix.2 hpre, decide_eq_true_iff]
    exact (List.prefix_iff_eq_take.1 hpre).symm
  · have : t.isPrefixOf l = false := by
      cases hh : t.isPrefixOf l
      · rfl
      · exact absurd (List.isPrefixOf_iff_prefix.1 hh) hpre
    rw [this, decide_eq_false_iff_not]
    intro h2
    exact hpre (List.prefix_iff_eq_take.2 h2.symm)

set_option maxRecDepth 100000 in
set_option maxHeartbeats 1000000 in
theorem begins1_any (s t : S) (w : World) :
    Calls Try.prog 133 #[.string s, .string t] w fun e w' => e = .returned (.bool (t.data.toList.isPrefixOf s.data.toList)) ∧ w = w' := by
  have h1 := size_data s
  have h2 := size_data t
  by_cases hk : t.size ≤ s.size
  · have d1 : decide (t.size ≤ s.size) = true := by rw [decide_eq_true_iff]; exact hk
    have HV : Hid (((s.extract 0 t.size).toList == t.toList) = t.data.toList.isPrefixOf s.data.toList) := by
      show _ = _
      have h3 : s.extract 0 t.size = bs (s.data.toList.take t.size) := by rw [Lib.extract_eq]; rfl
      have h4 := bs_beq (s.data.toList.take t.size) t.data.toList
      rw [data_bs] at h4
      rw [h3, h4, ← h2]
      exact take_pre _ _
    have d2 : (t.size : Int) ≤ (s.size : Int) := by omega
    clear h1 h2
    go_enter Try.func133, Try.ntmps133
    go_wp2
    go_ret
    exact ⟨ret_bool HV.out, rfl⟩
  · have d1 : decide (t.size ≤ s.size) = false := by rw [decide_eq_false_iff_not]; exact hk
    have HV : Hid (t.data.toList.isPrefixOf s.data.toList = false) := by
      show _ = _
      cases hh : t.data.toList.isPrefixOf s.data.toList
      · rfl
      · have := (List.isPrefixOf_iff_prefix.1 hh).length_le
        omega
    clear h1 h2
    go_enter Try.func133, Try.ntmps133
    go_wp2
    all_goals first | (exfalso; omega) | (go_ret; exact ⟨ret_bool HV.out.symm, rfl⟩)

set_option maxRecDepth 100000 in
set_option maxHeartbeats 1000000 in
theorem rletter_no (n : Int) (w : World) (h : okLetter n = false) : Calls Try.prog 134 #[.int .i64 n] w fun e w' => e = .returned (.string ⟨#[]⟩) ∧ w = w' := by
  simp only [okLetter, decide_eq_false_iff_not] at h
  have e1 : (n == 9) = false := beq_eq_false_iff_ne.2 (by omega)
  have e2 : (n == 10) = false := beq_eq_false_iff_ne.2 (by omega)
  have e3 : (n == 13) = false := beq_eq_false_iff_ne.2 (by omega)
  have n1 : ¬ n = 9 := by omega
  have n2 : ¬ n = 10 := by omega
  have n3 : ¬ n = 13 := by omega
  have hb : n < 32 ∨ 1114111 < n ∨ (55296 ≤ n ∧ n ≤ 57343) := by omega
  clear h
  rcases hb with h1 | h1 | ⟨h1, h2⟩
  all_goals
    go_enter Try.func134, Try.ntmps134
    go_wp2
    all_goals first | (exfalso; omega) | (go_ret; exact ⟨rfl, rfl⟩)

end Go.Proofs.Ytpchljiiappmnaa

/- The walk of the document's Letter, where there is one; the conditions stand in the theorems. -/
namespace Go.Proofs.Ytpchljiiappmnaa
open Go Go.RowKit

theorem conv_bytes2 (w : World) (xs : List Int) (l : Bs) (h : xs.map (fun n => UInt8.ofNat n.toNat) = l) (C : Array Value) (hC : C = (xs.map (Value.int .u8)).toArray) (k : Nat) (hk : k = xs.length) :
    (convert 47 9 (.slice (some ⟨w.heap.size, 0, none⟩) k k)).run Try.prog (w.alloc (.cells C 5)) = .ok (.string (bs l)) (w.alloc (.cells C 5)) := by
  subst hk hC
  rw [run_convert_bytes_arg (P := Try.prog) (w.alloc (.cells (xs.map (Value.int .u8)).toArray 5)) 47 5 Try.underlying47 Try.underlying5 w.heap.size 0 xs.length xs.length xs rfl ?_ 9 Try.underlying9]
  · rw [← h]; rfl
  · intro i hi
    rw [World.cell?_alloc_mark]
    simp [List.getElem?_eq_getElem hi]

set_option maxRecDepth 100000 in
set_option maxHeartbeats 1000000 in
theorem rletter_1 (n : Int) (w : World) (h1 : okLetter n = true) (h2 : n < 128) : Calls Try.prog 134 #[.int .i64 n] w fun e w' => e = .returned (.string (bs (letterB n))) ∧ Below w.heap.size w w' := by
  simp only [okLetter, decide_eq_true_eq] at h1
  have hcv := conv_bytes2 w [n] (letterB n) (by
    unfold letterB letterN
    simp only [List.map]
    repeat (first | rw [if_pos (by omega)] | rw [if_neg (by omega)])
    try rw [show (n / 64 % 64).toNat = n.toNat / 64 % 64 by omega]
    ) #[.int .u8 (n)] rfl 1 rfl
  have hb : n = 9 ∨ n = 10 ∨ n = 13 ∨ (32 ≤ n ∧ n < 128) := by omega
  clear h1
  rcases hb with rfl | rfl | rfl | ⟨h3, h4⟩
  all_goals
    try have n1 : ¬ n = 9 := by omega
    try have n2 : ¬ n = 10 := by omega
    try have n3 : ¬ n = 13 := by omega
    try have e1 : (n == 9) = false := beq_eq_false_iff_ne.2 (by omega)
    try have e2 : (n == 10) = false := beq_eq_false_iff_ne.2 (by omega)
    try have e3 : (n == 13) = false := beq_eq_false_iff_ne.2 (by omega)
    go_enter Try.func134, Try.ntmps134
    go_wp2
    all_goals first | (exfalso; omega) | (go_ret; exact ⟨rfl, (Below.refl _ _).alloc (Nat.le_refl _) _⟩)

set_option maxRecDepth 100000 in
set_option maxHeartbeats 1000000 in
theorem rletter_2 (n : Int) (w : World) (h1 : 128 ≤ n) (h2 : n < 2048) : Calls Try.prog 134 #[.int .i64 n] w fun e w' => e = .returned (.string (bs (letterB n))) ∧ Below w.heap.size w w' := by
  have hcv := conv_bytes2 w [192 + n / 64, 128 + n % 64] (letterB n) (by
    unfold letterB letterN
    simp only [List.map]
    repeat (first | rw [if_pos (by omega)] | rw [if_neg (by omega)])
    try rw [show (n / 64 % 64).toNat = n.toNat / 64 % 64 by omega]
    skip
    all_goals (first | rfl | (simp only [List.cons.injEq, and_true]; refine ⟨?_, ?_⟩ <;> (congr 1; omega)))) #[.int .u8 (192 + n / 64), .int .u8 (128 + n % 64)] rfl 2 rfl
  have n1 : ¬ n = 9 := by omega
  have n2 : ¬ n = 10 := by omega
  have n3 : ¬ n = 13 := by omega
  have e1 : (n == 9) = false := beq_eq_false_iff_ne.2 (by omega)
  have e2 : (n == 10) = false := beq_eq_false_iff_ne.2 (by omega)
  have e3 : (n == 13) = false := beq_eq_false_iff_ne.2 (by omega)
  go_enter Try.func134, Try.ntmps134
  go_wp2
  all_goals first | (exfalso; omega) | (go_ret; exact ⟨rfl, (Below.refl _ _).alloc (Nat.le_refl _) _⟩)

set_option maxRecDepth 100000 in
set_option maxHeartbeats 1000000 in
theorem rletter_3 (n : Int) (w : World) (h1 : okLetter n = true ∧ 2048 ≤ n) (h2 : n < 65536) : Calls Try.prog 134 #[.int .i64 n] w fun e w' => e = .returned (.string (bs (letterB n))) ∧ Below w.heap.size w w' := by
  simp only [okLetter, decide_eq_true_eq] at h1
  have hcv := conv_bytes2 w [224 + n / 4096, 128 + n / 64 % 64, 128 + n % 64] (letterB n) (by
    unfold letterB letterN
    simp only [List.map]
    repeat (first | rw [if_pos (by omega)] | rw [if_neg (by omega)])
    try rw [show (n / 64 % 64).toNat = n.toNat / 64 % 64 by omega]
    skip
    all_goals (first | rfl | (simp only [List.cons.injEq, and_true]; refine ⟨?_, ?_, ?_⟩ <;> (congr 1; omega)))) #[.int .u8 (224 + n / 4096), .int .u8 (128 + n / 64 % 64), .int .u8 (128 + n % 64)] rfl 3 rfl
  have n1 : ¬ n = 9 := by omega
  have n2 : ¬ n = 10 := by omega
  have n3 : ¬ n = 13 := by omega
  have e1 : (n == 9) = false := beq_eq_false_iff_ne.2 (by omega)
  have e2 : (n == 10) = false := beq_eq_false_iff_ne.2 (by omega)
  have e3 : (n == 13) = false := beq_eq_false_iff_ne.2 (by omega)
  have hb : n < 55296 ∨ 57343 < n := by omega
  have h5 := h1.2
  clear h1
  rcases hb with h3 | h3
  all_goals
    go_enter Try.func134, Try.ntmps134
    go_wp2
    all_goals first | (exfalso; omega) | (go_ret; exact ⟨rfl, (Below.refl _ _).alloc (Nat.le_refl _) _⟩)

set_option maxRecDepth 100000 in
set_option maxHeartbeats 1000000 in
theorem rletter_4 (n : Int) (w : World) (h1 : 65536 ≤ n) (h2 : n ≤ 1114111) : Calls Try.prog 134 #[.int .i64 n] w fun e w' => e = .returned (.string (bs (letterB n))) ∧ Below w.heap.size w w' := by
  have hcv := conv_bytes2 w [240 + n / 262144, 128 + n / 4096 % 64, 128 + n / 64 % 64, 128 + n % 64] (letterB n) (by
    unfold letterB letterN
    simp only [List.map]
    repeat (first | rw [if_pos (by omega)] | rw [if_neg (by omega)])
    try rw [show (n / 64 % 64).toNat = n.toNat / 64 % 64 by omega]
    skip
    all_goals (first | rfl | (simp only [List.cons.injEq, and_true]; refine ⟨?_, ?_, ?_, ?_⟩ <;> (congr 1; omega)))) #[.int .u8 (240 + n / 262144), .int .u8 (128 + n / 4096 % 64), .int .u8 (128 + n / 64 % 64), .int .u8 (128 + n % 64)] rfl 4 rfl
  have n1 : ¬ n = 9 := by omega
  have n2 : ¬ n = 10 := by omega
  have n3 : ¬ n = 13 := by omega
  have e1 : (n == 9) = false := beq_eq_false_iff_ne.2 (by omega)
  have e2 : (n == 10) = false := beq_eq_false_iff_ne.2 (by omega)
  have e3 : (n == 13) = false := beq_eq_false_iff_ne.2 (by omega)
  go_enter Try.func134, Try.ntmps134
  go_wp2
  all_goals first | (exfalso; omega) | (go_ret; exact ⟨rfl, (Below.refl _ _).alloc (Nat.le_refl _) _⟩)

theorem rletter_ok (n : Int) (w : World) (h : okLetter n = true) : Calls Try.prog 134 #[.int .i64 n] w fun e w' => e = .returned (.string (bs (letterB n))) ∧ Below w.heap.size w w' := by
  have hh := h
  simp only [okLetter, decide_eq_true_eq] at hh
  by_cases h1 : n < 128
  · exact rletter_1 n w h h1
  · by_cases h2 : n < 2048
    · exact rletter_2 n w (by omega) h2
    · by_cases h3 : n < 65536
      · exact rletter_3 n w ⟨h, by omega⟩ h3
      · exact rletter_4 n w (by omega) (by omega)

end Go.Proofs.Ytpchljiiappmnaa
