/- Walks: is a property's name among those read; the conditions stand in the theorems. -/
import Derived.Test.YtbbbfjcikhpmbaaGreatJE14
import Derived.Laws.EntriesVeiled
import Derived.Test.YtbbbfjcikhpmbaaGreatJE12
import Derived.Test.YtbbbfjcikhpmbaaGreatJE13
import Derived.Test.YtbbbfjcikhpmbaaGreatJE06
import Derived.Test.YtbbbfjcikhpmbaaGreatJE02
namespace Go.Proofs.YtbbbfjcikhpmbaaGreat
open Go Go.RowKit

theorem SliceOf.prpAt {w : World} {ao : Option Addr} {len cap : Nat} {l : List Prp} (h : SliceOf 2 prpC w (.slice ao len cap) l) {k : Nat} (hk : k < l.length) :
    ∃ g o, ao = some ⟨g, o, none⟩ ∧ g < w.heap.size ∧ w.cell? ⟨g, o + k * 2, none⟩ = some (.string l[k].name) ∧ w.cell? ⟨g, o + k * 2 + 1, none⟩ = some (.string l[k].value) := by
 obtain ⟨g, o, e, hg, hc⟩ := h.at hk
 exact ⟨g, o, e, hg, by simpa using hc 0 _ rfl, hc 1 _ rfl⟩
theorem prpHit_any (p : Prp) (n : S) (q : Bool) (hq : (p.name.toList == n.toList) = q) (B : Nat) (w : World) (hB : B < w.heap.size) (h0 : w.cell? ⟨B, 0, none⟩ = some (.string n)) :
    Calls Tryz.prog 89 #[.agg #[.string p.name, .string p.value], .pointer (some ⟨B, 0, none⟩)] w fun e w' => e = .returned (.bool q) ∧ Below w.heap.size w w' := by
 have HB : Hid (∀ o, Below w.heap.size w (w.alloc o)) := fun o => (Below.refl _ w).alloc (Nat.le_refl _) _
 go_enter Tryz.func89, Tryz.ntmps89
 go_wp2
 go_ret
 exact ⟨rfl, HB.out _⟩
/-- Is there one of that name? -/
def hasN (l : List Prp) (n : S) : Bool := l.any fun p => p.name.toList == n.toList
theorem hasN_take {l : List Prp} {n : S} {k : Nat} (h : k < l.length) : hasN (l.take (k + 1)) n = (hasN (l.take k) n || (l[k].name.toList == n.toList)) := by
 unfold hasN
 rw [List.take_succ_eq_append_getElem h, List.any_append]
 simp
theorem hasN_mem {l : List Prp} {n : S} {k : Nat} (h : k < l.length) (he : (l[k].name.toList == n.toList) = true) : hasN l n = true := List.any_eq_true.2 ⟨l[k], List.getElem_mem h, he⟩
set_option maxRecDepth 100000 in
set_option maxHeartbeats 4000000 in
theorem indexP_any (l : List Prp) (n : S) (v : Value) (B : Nat) (w : World) (hv : SliceOf 2 prpC w v l) (hB : w.cell? ⟨B, 0, none⟩ = some (.string n)) (hlt : B < w.heap.size) :
    Calls Tryz.prog 122 #[v, .func (.func 89) #[] #[.pointer (some ⟨B, 0, none⟩)]] w fun e w' => ∃ r : Int, e = .returned (.int .i64 r) ∧ ((r = -1 ∧ hasN l n = false) ∨ (0 ≤ r ∧ hasN l n = true)) ∧ Below w.heap.size w w' := by
 have hlm : l.length ≤ 9223372036854775807 := by obtain ⟨a, c, e, h2, h3, -⟩ := hv; exact Nat.le_trans h2 (Nat.le_trans h3 (by decide))
 obtain ⟨ao, ac, rfl⟩ := hv.shape
 have HV := Lib.hid hv
 have HBK := Lib.hid hB
 have HLT := Lib.hid hlt
 clear hv hB hlt
 go_enter Tryz.func122, Tryz.ntmps122
 go_wp2_with fail
 go_loopw [8] (fun iv wr => ∃ i : Nat, i ≤ l.length ∧ iv = .int .i64 i ∧ Hid (hasN (l.take i) n = false) ∧ Below w.heap.size w wr) (fun iv _ => l.length - (intOf iv).toNat)
 case atStart => exact ⟨0, Nat.zero_le _, rfl, rfl, Below.refl _ _⟩
 case round =>
  obtain ⟨i, hi, rfl, hn, hb⟩ := hrel
  have HBR := Lib.hid hb
  have hsr := hb.size
  by_cases hlt : i < l.length
  · have hltI : (i : Int) < (l.length : Int) := by omega
    obtain ⟨g, o, rfl, hg, c0, c1⟩ := (HV.out.below hb).prpAt hlt
    have HN := Lib.hid (hasN_take (n := n) hlt)
    have HM := Lib.hid (hasN_mem (n := n) hlt)
    obtain ⟨q, hq⟩ : ∃ q, q = (l[i].name.toList == n.toList) := ⟨_, rfl⟩
    have HCC := Lib.hid (prpHit_any l[i] n q hq.symm B wr (Nat.lt_of_lt_of_le HLT.out hsr) ((hb.cell (p := ⟨B, 0, none⟩) HLT.out).trans HBK.out))
    rw [← hq] at HN HM
    clear hb hq
    cases q with
    | true =>
     have HT : Hid (hasN l n = true) := HM.out (by trivial)
     clear HN HM hn
     go_wp2_with fail
     refine HCC.out.mono ?_
     rintro e w2 ⟨rfl, hb2⟩
     have HB2 := Lib.hid (HBR.out.trans (hb2.mono hsr))
     clear hb2 c0 c1
     go_wp2
     go_ret
     exact ⟨_, rfl, .inr ⟨by omega, HT.out⟩, HB2.out⟩
    | false =>
     have HF : Hid (hasN (l.take (i + 1)) n = false) := by show _ = _; rw [HN.out, hn.out]; rfl
     clear HN HM hn
     go_wp2_with fail
     refine HCC.out.mono ?_
     rintro e w2 ⟨rfl, hb2⟩
     have HB2 := Lib.hid (HBR.out.trans (hb2.mono hsr))
     clear hb2 c0 c1
     go_wp2
     go_roundw
     case rel => exact ⟨i + 1, hlt, by go_num, HF.out, HB2.out⟩
     case measure => simp [intOf]; omega
  · obtain rfl : i = l.length := by omega
    have HR : Hid (hasN l n = false) := by have := hn.out; rwa [List.take_length] at this
    clear hlt hb hn
    go_wp2
    go_ret
    exact ⟨_, rfl, .inl ⟨rfl, HR.out⟩, HBR.out⟩
set_option maxHeartbeats 1000000 in
theorem containsP_any (l : List Prp) (n : S) (v : Value) (B : Nat) (w : World) (hv : SliceOf 2 prpC w v l) (hB : w.cell? ⟨B, 0, none⟩ = some (.string n)) (hlt : B < w.heap.size) :
    Calls Tryz.prog 88 #[v, .func (.func 89) #[] #[.pointer (some ⟨B, 0, none⟩)]] w fun e w' => e = .returned (.bool (hasN l n)) ∧ Below w.heap.size w w' := by
 have HI := Lib.hid (indexP_any l n v B w hv hB hlt)
 generalize hasN l n = q at *
 obtain ⟨ao, ac, rfl⟩ := hv.shape
 clear hv hB hlt
 go_enter Tryz.func88, Tryz.ntmps88
 go_wp2_with fail
 refine HI.out.mono ?_
 rintro e w2 ⟨r, rfl, hr, hb2⟩
 have HB2 := Lib.hid hb2
 clear hb2 HI
 rcases hr with ⟨rfl, hh⟩ | ⟨h0, hh⟩
 · subst hh
   go_wp2
   go_ret
   exact ⟨rfl, HB2.out⟩
 · subst hh
   go_wp2
   go_ret
   exact ⟨rfl, HB2.out⟩

end Go.Proofs.YtbbbfjcikhpmbaaGreat

/- Walks: the properties and the lists of dependencies that may be, by pom; the conditions stand in the theorems. -/
namespace Go.Proofs.YtbbbfjcikhpmbaaGreat
open Go Go.RowKit

/-- Texts that are not too long. -/
structure DepSm (d : Dep) : Prop where
 own : ∀ s ∈ [d.group, d.artifact, d.version, d.type, d.classifier], s.size ≤ 1000000
 ex : ∀ y ∈ d.excl, y.group.size ≤ 1000000 ∧ y.artifact.size ≤ 1000000
/-- May these be properties, behind some? -/
def propsGo : List Prp → List Prp → Bool
 | [], _ => true
 | p :: r, d => (!hasN d p.name && (okName p.name.data.toList && okW p.value true)) && propsGo r (d ++ [p])
theorem propsGo_at {l : List Prp} {k : Nat} (h : k < l.length) : propsGo (l.drop k) (l.take k) = ((!hasN (l.take k) l[k].name && (okName l[k].name.data.toList && okW l[k].value true)) && propsGo (l.drop (k + 1)) (l.take (k + 1))) := by
 rw [List.drop_eq_getElem_cons h, propsGo, List.take_succ_eq_append_getElem h]
theorem SliceOf.takeQ {α : Type} {n : Nat} {C : α → List Value} {w : World} {ao : Option Addr} {len cap k : Nat} {l : List α} (h : SliceOf n C w (.slice ao len cap) l) (hk : k ≤ l.length) : SliceOf n C w (.slice ao k cap) (l.take k) := by
 obtain ⟨a, c, e, h2, h3, h4, h5⟩ := h
 simp only [Value.slice.injEq] at e
 obtain ⟨rfl, rfl, rfl⟩ := e
 have hl : (l.take k).length = k := by rw [List.length_take]; omega
 refine ⟨ao, cap, by rw [hl], by omega, h3, h4, fun i x hx => ?_⟩
 have hi : i < k := by have := (List.getElem?_eq_some_iff.1 hx).1; omega
 rw [List.getElem?_take, if_pos hi] at hx
 exact h5 i x hx
theorem prpHit2_any (p : Prp) (n : S) (q : Bool) (hq : (p.name.toList == n.toList) = q) (B : Nat) (w : World) (hB : B < w.heap.size) (h0 : w.cell? ⟨B, 0, none⟩ = some (.string n)) :
    Calls Tryz.prog 102 #[.agg #[.string p.name, .string p.value], .pointer (some ⟨B, 0, none⟩)] w fun e w' => e = .returned (.bool q) ∧ Below w.heap.size w w' := by
 have HB : Hid (∀ o, Below w.heap.size w (w.alloc o)) := fun o => (Below.refl _ w).alloc (Nat.le_refl _) _
 go_enter Tryz.func102, Tryz.ntmps102
 go_wp2
 go_ret
 exact ⟨rfl, HB.out _⟩
set_option maxRecDepth 100000 in
set_option maxHeartbeats 4000000 in
theorem indexP2_any (l : List Prp) (n : S) (v : Value) (B : Nat) (w : World) (hv : SliceOf 2 prpC w v l) (hB : w.cell? ⟨B, 0, none⟩ = some (.string n)) (hlt : B < w.heap.size) :
    Calls Tryz.prog 122 #[v, .func (.func 102) #[] #[.pointer (some ⟨B, 0, none⟩)]] w fun e w' => ∃ r : Int, e = .returned (.int .i64 r) ∧ ((r = -1 ∧ hasN l n = false) ∨ (0 ≤ r ∧ hasN l n = true)) ∧ Below w.heap.size w w' := by
 have hlm : l.length ≤ 9223372036854775807 := by obtain ⟨a, c, e, h2, h3, -⟩ := hv; exact Nat.le_trans h2 (Nat.le_trans h3 (by decide))
 obtain ⟨ao, ac, rfl⟩ := hv.shape
 have HV := Lib.hid hv
 have HBK := Lib.hid hB
 have HLT := Lib.hid hlt
 clear hv hB hlt
 go_enter Tryz.func122, Tryz.ntmps122
 go_wp2_with fail
 go_loopw [8] (fun iv wr => ∃ i : Nat, i ≤ l.length ∧ iv = .int .i64 i ∧ Hid (hasN (l.take i) n = false) ∧ Below w.heap.size w wr) (fun iv _ => l.length - (intOf iv).toNat)
 case atStart => exact ⟨0, Nat.zero_le _, rfl, rfl, Below.refl _ _⟩
 case round =>
  obtain ⟨i, hi, rfl, hn, hb⟩ := hrel
  have HBR := Lib.hid hb
  have hsr := hb.size
  by_cases hlt : i < l.length
  · have hltI : (i : Int) < (l.length : Int) := by omega
    obtain ⟨g, o, rfl, hg, c0, c1⟩ := (HV.out.below hb).prpAt hlt
    have HN := Lib.hid (hasN_take (n := n) hlt)
    have HM := Lib.hid (hasN_mem (n := n) hlt)
    obtain ⟨q, hq⟩ : ∃ q, q = (l[i].name.toList == n.toList) := ⟨_, rfl⟩
    have HCC := Lib.hid (prpHit2_any l[i] n q hq.symm B wr (Nat.lt_of_lt_of_le HLT.out hsr) ((hb.cell (p := ⟨B, 0, none⟩) HLT.out).trans HBK.out))
    rw [← hq] at HN HM
    clear hb hq
    cases q with
    | true =>
     have HT : Hid (hasN l n = true) := HM.out (by trivial)
     clear HN HM hn
     go_wp2_with fail
     refine HCC.out.mono ?_
     rintro e w2 ⟨rfl, hb2⟩
     have HB2 := Lib.hid (HBR.out.trans (hb2.mono hsr))
     clear hb2 c0 c1
     go_wp2
     go_ret
     exact ⟨_, rfl, .inr ⟨by omega, HT.out⟩, HB2.out⟩
    | false =>
     have HF : Hid (hasN (l.take (i + 1)) n = false) := by show _ = _; rw [HN.out, hn.out]; rfl
     clear HN HM hn
     go_wp2_with fail
     refine HCC.out.mono ?_
     rintro e w2 ⟨rfl, hb2⟩
     have HB2 := Lib.hid (HBR.out.trans (hb2.mono hsr))
     clear hb2 c0 c1
     go_wp2
     go_roundw
     case rel => exact ⟨i + 1, hlt, by go_num, HF.out, HB2.out⟩
     case measure => simp [intOf]; omega
  · obtain rfl : i = l.length := by omega
    have HR : Hid (hasN l n = false) := by have := hn.out; rwa [List.take_length] at this
    clear hlt hb hn
    go_wp2
    go_ret
    exact ⟨_, rfl, .inl ⟨rfl, HR.out⟩, HBR.out⟩
set_option maxHeartbeats 1000000 in
theorem containsP2_any (l : List Prp) (n : S) (v : Value) (B : Nat) (w : World) (hv : SliceOf 2 prpC w v l) (hB : w.cell? ⟨B, 0, none⟩ = some (.string n)) (hlt : B < w.heap.size) :
    Calls Tryz.prog 88 #[v, .func (.func 102) #[] #[.pointer (some ⟨B, 0, none⟩)]] w fun e w' => e = .returned (.bool (hasN l n)) ∧ Below w.heap.size w w' := by
 have HI := Lib.hid (indexP2_any l n v B w hv hB hlt)
 generalize hasN l n = q at *
 obtain ⟨ao, ac, rfl⟩ := hv.shape
 clear hv hB hlt
 go_enter Tryz.func88, Tryz.ntmps88
 go_wp2_with fail
 refine HI.out.mono ?_
 rintro e w2 ⟨r, rfl, hr, hb2⟩
 have HB2 := Lib.hid hb2
 clear hb2 HI
 rcases hr with ⟨rfl, hh⟩ | ⟨h0, hh⟩
 · subst hh
   go_wp2
   go_ret
   exact ⟨rfl, HB2.out⟩
 · subst hh
   go_wp2
   go_ret
   exact ⟨rfl, HB2.out⟩
set_option maxRecDepth 100000 in
set_option maxHeartbeats 4000000 in
theorem isDepsQ_any (m : Bool) (ds : List Dep) (v : Value) (w : World) (hv : DepsOf w v ds) (hs : ∀ d ∈ ds, DepSm d) :
    Calls Tryz.prog 69 #[v, .bool m] w fun e w' => e = .returned (.bool (ds.all (mayD (if m then 6 else 5)) && decide (ds.length ≤ 1024))) ∧ Below w.heap.size w w' := by
 obtain ⟨l, hel, hl, hlo⟩ := hv
 obtain ⟨r, hr⟩ : ∃ r, r = (ds.all (mayD (if m then 6 else 5)) && decide (ds.length ≤ 1024)) := ⟨_, rfl⟩
 have HR : Hid (r = (l.all (fun q => mayD (if m then 6 else 5) q.1) && decide (l.length ≤ 1024))) := by show _ = _; rw [hr, ← hel, List.all_map, List.length_map]; rfl
 have HSM : Hid (∀ q ∈ l, DepSm q.1) := fun q hq => hs _ (by rw [← hel]; exact List.mem_map.2 ⟨q, hq, rfl⟩)
 rw [← hr]
 have hll : l.length ≤ 9223372036854775807 := by obtain ⟨a, c, e, h2, h3, -⟩ := hl; exact Nat.le_trans h2 (Nat.le_trans h3 (by decide))
 obtain ⟨ao, cap, rfl⟩ := hl.shape
 have HX := Lib.hid hl
 have HXO := Lib.hid hlo
 clear hr hel hl hlo hs
 go_enter Tryz.func69, Tryz.ntmps69
 go_wp2
 go_loopw [9] (fun i wr => ∃ k : Nat, k ≤ l.length ∧ i = .int .i64 k ∧ Hid ((l.take k).all (fun q => mayD (if m then 6 else 5) q.1) = true ∧ Below w.heap.size w wr)) (fun i _ => l.length - (intOf i).toNat)
 case atStart => exact ⟨0, Nat.zero_le _, rfl, rfl, Below.refl _ _⟩
 case round =>
  obtain ⟨k, hk, rfl, HRR⟩ := hrel
  by_cases hlt : k < l.length
  · have HTK := Lib.hid (all_take2 (p := fun q : Dep × Value => mayD (if m then 6 else 5) q.1) hlt)
    have HNO := Lib.hid (fun h => all_no2 (p := fun q : Dep × Value => mayD (if m then 6 else 5) q.1) hlt h)
    have HSK := Lib.hid (HSM.out l[k] (List.getElem_mem hlt))
    have hok := (HXO.out l[k] (List.getElem_mem hlt)).below HRR.out.2
    obtain ⟨g, o, rfl, hg, c0, c1, c2, c3, c4, c5, c6, c7⟩ := (HX.out.below HRR.out.2).atDep hlt
    have hsr := HRR.out.2.size
    generalize l[k] = q at *
    obtain ⟨qd, qx⟩ := q
    obtain ⟨xo, xc, rfl⟩ := hok.shape
    simp only at c0 c1 c2 c3 c4 c5 c6 c7
    have HOK : Hid (SliceOf 2 idC wr (.slice xo qd.excl.length xc) qd.excl) := hok
    clear hok
    go_upto_region 4 with fail
    refine wp_world ?_
    intro W4 hW4
    have x4 : Box W4 wr.heap.size [.string qd.group, .string qd.artifact, .string qd.version, .string qd.type, .string qd.classifier, .int .i64 qd.scope, .int .i64 qd.opt, .slice xo qd.excl.length xc] := by rw [hW4]; exact Box.new wr [.string qd.group, .string qd.artifact, .string qd.version, .string qd.type, .string qd.classifier, .int .i64 qd.scope, .int .i64 qd.opt, .slice xo qd.excl.length xc] _ _ rfl
    have hb4 : Below wr.heap.size wr W4 := by rw [hW4]; exact (Below.refl _ _).alloc (Nat.le_refl _) _
    clear hW4 c0 c1 c2 c3 c4 c5 c6 c7
    obtain ⟨a0, a1, a2, a3, a4, a5, a6, a7⟩ := bxc8 x4
    have al := x4.lt
    have HB4 := Lib.hid (HRR.out.2.trans (hb4.mono hsr))
    have HDM : Hid (Calls Tryz.prog 104 #[.agg #[.string qd.group, .string qd.artifact, .string qd.version, .string qd.type, .string qd.classifier, .int .i64 qd.scope, .int .i64 qd.opt, .slice xo qd.excl.length xc], .bool m] W4 fun e w' => e = .returned (.bool (mayD (if m then 6 else 5) qd)) ∧ Below W4.heap.size W4 w') := isDepQ_any qd (.slice xo qd.excl.length xc) m W4 (HOK.out.below hb4) HSK.out.own HSK.out.ex
    clear x4 hb4 HOK
    obtain ⟨b, hb⟩ : ∃ b, b = mayD (if m then 6 else 5) qd := ⟨_, rfl⟩
    rw [← hb] at HDM
    have HBQ := Lib.hid hb
    clear hb
    go_wp2_with fail
    refine HDM.out.mono ?_
    rintro e w7 ⟨rfl, hb7⟩
    have HB := Lib.hid (HB4.out.trans (hb7.mono HB4.out.size))
    clear a0 a1 a2 a3 a4 a5 a6 a7 al hb7 HDM HB4
    cases b with
    | false =>
     have HN : Hid (r = false) := by show _ = _; rw [HR.out, HNO.out HBQ.out.symm]; rfl
     clear HTK HNO
     go_wp2
     go_ret
     exact ⟨by rw [HN.out]; rfl, HB.out⟩
    | true =>
     have HT2 : Hid ((l.take (k + 1)).all (fun q => mayD (if m then 6 else 5) q.1) = true) := by show _ = _; rw [HTK.out, HRR.out.1]; exact HBQ.out.symm
     clear HTK HNO
     go_wp2
     go_roundw
     case rel => exact ⟨k + 1, hlt, by go_num, HT2.out, HB.out⟩
     case measure => simp [intOf]; omega
  · obtain rfl : k = l.length := by omega
    have HB := Lib.hid HRR.out.2
    have h1 := HRR.out.1
    rw [List.take_length] at h1
    have HN : Hid (r = decide (l.length ≤ 1024)) := by show _ = _; rw [HR.out, h1]; rfl
    clear hlt HRR h1
    by_cases hq : l.length ≤ 1024
    · have hI : (l.length : Int) ≤ 1024 := by omega
      have HN2 : Hid (r = true) := by show _ = _; rw [HN.out]; exact decide_eq_true hq
      go_wp2
      go_ret
      refine ⟨?_, HB.out⟩
      rw [HN2.out]
      first | rfl | exact ret_bool (decide_eq_true (by omega))
    · have hI : ¬ (l.length : Int) ≤ 1024 := by omega
      have HN2 : Hid (r = false) := by show _ = _; rw [HN.out]; exact decide_eq_false hq
      go_wp2
      go_ret
      refine ⟨?_, HB.out⟩
      rw [HN2.out]
      first | rfl | exact ret_bool (decide_eq_false (by omega))
set_option maxRecDepth 100000 in
set_option maxHeartbeats 4000000 in
theorem isPropsQ_any (l : List Prp) (v : Value) (w : World) (hv : SliceOf 2 prpC w v l) (hs : ∀ y ∈ l, y.name.size ≤ 1000000 ∧ y.value.size ≤ 1000000) :
    Calls Tryz.prog 68 #[v] w fun e w' => e = .returned (.bool (propsGo l [] && decide (l.length ≤ 1024))) ∧ Below w.heap.size w w' := by
 obtain ⟨r, hr⟩ : ∃ r, r = (propsGo l [] && decide (l.length ≤ 1024)) := ⟨_, rfl⟩
 have HR : Hid (r = (propsGo l [] && decide (l.length ≤ 1024))) := hr
 rw [← hr]
 have hll : l.length ≤ 9223372036854775807 := by obtain ⟨a, c, e, h2, h3, -⟩ := hv; exact Nat.le_trans h2 (Nat.le_trans h3 (by decide))
 obtain ⟨ao, cap, rfl⟩ := hv.shape
 have hcap : l.length ≤ cap ∧ cap ≤ 9223372036854775807 := by obtain ⟨a, c, e, h2, h3, -⟩ := hv; simp only [Value.slice.injEq] at e; obtain ⟨-, -, rfl⟩ := e; exact ⟨h2, h3⟩
 have HX := Lib.hid hv
 have HSS := Lib.hid hs
 clear hr hv hs
 go_enter Tryz.func68, Tryz.ntmps68
 go_wp2
 go_loopw [8] (fun i wr => ∃ k : Nat, k ≤ l.length ∧ i = .int .i64 k ∧ Hid (propsGo l [] = propsGo (l.drop k) (l.take k) ∧ Below w.heap.size w wr)) (fun i _ => l.length - (intOf i).toNat)
 case atStart => exact ⟨0, Nat.zero_le _, rfl, rfl, Below.refl _ _⟩
 case round =>
  obtain ⟨k, hk, rfl, HRR⟩ := hrel
  by_cases hlt : k < l.length
  · have HGO := Lib.hid (HRR.out.1.trans (propsGo_at hlt))
    have HSK := Lib.hid (HSS.out l[k] (List.getElem_mem hlt))
    obtain ⟨g, o, rfl, hg, c0, c1⟩ := (HX.out.below HRR.out.2).atPrp hlt
    have hsr := HRR.out.2.size
    have HST := Lib.hid ((HX.out.below HRR.out.2).takeQ (show k ≤ l.length by omega))
    have HLT : Hid (k < l.length) := hlt
    generalize l[k] = q at *
    obtain ⟨nm, vl⟩ := q
    simp only at c0 c1 HGO
    have hki : (k : Int) ≤ (cap : Int) := by omega
    have hkc : k ≤ cap := by omega
    have hk0 : (0 : Int) ≤ (k : Int) := by omega
    go_upto_region 4 with fail
    refine wp_world ?_
    intro W4 hW4
    have x4 : Box W4 wr.heap.size [.string nm, .string vl] := by rw [hW4]; exact Box.new wr [.string nm, .string vl] _ _ rfl
    have hb4 : Below wr.heap.size wr W4 := by rw [hW4]; exact (Below.refl _ _).alloc (Nat.le_refl _) _
    clear hW4 c0 c1
    have HY := Lib.hid x4
    have HB4 := Lib.hid (HRR.out.2.trans (hb4.mono hsr))
    obtain ⟨dup, hdup⟩ : ∃ b, b = hasN (l.take k) nm := ⟨_, rfl⟩
    have HCP : Hid (Calls Tryz.prog 88 #[.slice (some ⟨g, o, none⟩) k cap, .func (.func 102) #[] #[.pointer (some ⟨wr.heap.size, 0, none⟩)]] W4 fun e w' => e = .returned (.bool dup) ∧ Below W4.heap.size W4 w') := by
     rw [hdup]
     exact containsP2_any (l.take k) nm (.slice (some ⟨g, o, none⟩) k cap) wr.heap.size W4 (HST.out.below hb4) (x4.cell 0 _ rfl) x4.lt
    rw [← hdup] at HGO
    clear x4 hb4 hdup HST
    go_wp2_with fail
    refine HCP.out.mono ?_
    rintro e w5 ⟨rfl, hb5⟩
    have HY5 := Lib.hid (HY.out.below hb5 HY.out.lt)
    have HB5 := Lib.hid (HB4.out.trans (hb5.mono HB4.out.size))
    clear hb5 HCP HY HB4
    have a0 := HY5.out.cell 0 _ rfl
    have a1 := HY5.out.cell 1 _ rfl
    have al := HY5.out.lt
    have HDR : Hid (∀ n, Below w.heap.size w (w5.drewN n)) := fun n => belowN HB5.out n
    cases dup with
    | true =>
     have HN : Hid (r = false) := by show _ = _; rw [HR.out, HGO.out]; rfl
     clear HGO
     go_wp2
     go_quiet (fail)
     go_wp2
     go_ret
     exact ⟨by rw [HN.out]; rfl, HDR.out _⟩
    | false =>
     have hE0 := empty_data nm
     by_cases hz : nm.size = 0
     · have hE : nm.toList.isEmpty = true := by rw [hE0]; simpa using hz
       have HN : Hid (r = false) := by
        show _ = _
        have hd : nm.data.toList = [] := List.eq_nil_of_length_eq_zero (by rw [size_data, hz])
        rw [HR.out, HGO.out, hd]; rfl
       clear HGO hE0 hz
       go_wp2
       go_quiet (fail)
       go_wp2
       go_ret
       exact ⟨by rw [HN.out]; rfl, HDR.out _⟩
     · have hE : nm.toList.isEmpty = false := by rw [hE0]; simpa using hz
       have HOK : Hid (okName nm.data.toList = decide (nameLen nm.data.toList = nm.size)) := by
        show _ = _
        have hd : nm.data.toList.isEmpty = false := by
         cases h : nm.data.toList with
         | nil => have := size_data nm; rw [h] at this; exact absurd this.symm hz
         | cons a b => rfl
        unfold okName
        rw [hd, size_data]; rfl
       have HNM := Lib.hid (fun W => name_any nm W (by have h2 : nm.size ≤ 1000000 := HSK.out.1; omega))
       have HTX := Lib.hid (fun W => isTextQ_any vl true W HSK.out.2)
       clear hE0 hz
       generalize nameLen nm.data.toList = nl at *
       by_cases hn : nl = nm.size
       · have hb : ((nl : Int) == (nm.size : Int)) = true := by rw [hn]; simp
         have hb2 : ((nl : Int) != (nm.size : Int)) = false := by rw [bne, hb]; rfl
         rw [HOK.out, decide_eq_true hn] at HGO
         clear hn HOK
         obtain ⟨tx, htx⟩ : ∃ b, b = okW vl true := ⟨_, rfl⟩
         rw [← htx] at HTX HGO
         clear htx
         go_wp2
         go_region_held3 (fun w' => w'.cell? ⟨wr.heap.size, 0, none⟩ = some (.string nm) ∧ w'.cell? ⟨wr.heap.size, 1, none⟩ = some (.string vl)) (first | exact ⟨a0, a1⟩ | exact ⟨b0, b1⟩ | (go_keep; done)) (first | (go_at_call 103; refine (HNM.out _).mono ?_; rintro e w6 ⟨rfl, rfl⟩) | (go_at_call 67; refine (HTX.out _).mono ?_; rintro e w7 ⟨rfl, hb7⟩; have HB7 := Lib.hid ((HDR.out 1).trans (hb7.mono (HDR.out 1).size)); have hy7 : Box w5.drew wr.heap.size [.string nm, .string vl] := ⟨HY5.out.lt, HY5.out.cell, HY5.out.free⟩; have hy8 := hy7.below hb7 hy7.lt; have b0 := hy8.cell 0 _ rfl; have b1 := hy8.cell 1 _ rfl; clear hy7 hy8 hb7))
         cases tx with
         | false =>
          have HN : Hid (r = false) := by show _ = _; rw [HR.out, HGO.out]; rfl
          clear HGO
          go_wp2
          go_ret
          exact ⟨by rw [HN.out]; rfl, HB7.out⟩
         | true =>
          go_wp2
          go_roundw
          case rel => exact ⟨k + 1, HLT.out, by go_num, by rw [HGO.out]; rfl, HB7.out⟩
          case measure => simp [intOf]; have := HLT.out; omega
       · have hb : ((nl : Int) == (nm.size : Int)) = false := beq_eq_false_iff_ne.2 (by omega)
         have hb2 : ((nl : Int) != (nm.size : Int)) = true := by rw [bne, hb]; rfl
         have hb3 : (nl == nm.size) = false := beq_eq_false_iff_ne.2 hn
         have hb4 : (nl != nm.size) = true := by rw [bne, hb3]; rfl
         rw [HOK.out, decide_eq_false hn] at HGO
         have HN : Hid (r = false) := by show _ = _; rw [HR.out, HGO.out]; rfl
         clear hn HOK HGO HTX
         go_wp2
         go_quiet ((go_at_call 103; exact quietS (HNM.out _)))
         go_wp2
         go_ret
         exact ⟨by rw [HN.out]; rfl, HDR.out _⟩
  · obtain rfl : k = l.length := by omega
    have HB := Lib.hid HRR.out.2
    have HN : Hid (r = decide (l.length ≤ 1024)) := by show _ = _; rw [HR.out, HRR.out.1, List.drop_length]; rfl
    clear hlt HRR
    by_cases hq : l.length ≤ 1024
    · have hI : (l.length : Int) ≤ 1024 := by omega
      have HN2 : Hid (r = true) := by show _ = _; rw [HN.out]; exact decide_eq_true hq
      go_wp2
      go_ret
      refine ⟨?_, HB.out⟩
      rw [HN2.out]
      first | rfl | exact ret_bool (decide_eq_true (by omega))
    · have hI : ¬ (l.length : Int) ≤ 1024 := by omega
      have HN2 : Hid (r = false) := by show _ = _; rw [HN.out]; exact decide_eq_false hq
      go_wp2
      go_ret
      refine ⟨?_, HB.out⟩
      rw [HN2.out]
      first | rfl | exact ret_bool (decide_eq_false (by omega))

end Go.Proofs.YtbbbfjcikhpmbaaGreat

/- The walk of pom.May; the conditions stand in the theorem. -/

namespace Go.Proofs.YtbbbfjcikhpmbaaGreat
open Go Go.RowKit

attribute [local go_sem ↓] eqg_prp neq_prp eqg_id neq_id eqg_gav eql_gav
/-- Texts of a project that are not too long. -/
structure PomSm (p : Pom) : Prop where
 own : ∀ s ∈ [p.group, p.artifact, p.version, p.packaging], s.size ≤ 1000000
 prp : ∀ y ∈ p.props, y.name.size ≤ 1000000 ∧ y.value.size ≤ 1000000
 man : ∀ d ∈ p.managed, DepSm d
 dep : ∀ d ∈ p.deps, DepSm d
 gav : gavSm p.parent
def parentB (hp : Bool) (g : Gav) : Bool := if hp then gavMay g else decide (g = ⟨⟨#[]⟩, ⟨#[]⟩, ⟨#[]⟩⟩)
/-- May it be a project? -/
def mayP (p : Pom) : Bool := parentB p.hasParent p.parent && ((okW p.group true && (okW p.artifact false && (okW p.version true && okW p.packaging true))) && (decide (p.props.length ≤ 1024) && (propsGo p.props [] && ((p.managed.all (mayD 6) && decide (p.managed.length ≤ 1024)) && (p.deps.all (mayD 5) && decide (p.deps.length ≤ 1024))))))
set_option maxRecDepth 100000 in
set_option maxHeartbeats 8000000 in
theorem pomMay_any (p : Pom) (pv mv dv : Value) (w : World) (hp : PomOf w (.agg (pomC p pv mv dv).toArray) p pv mv dv) (hs : PomSm p) :
    Calls Tryz.prog 24 #[.agg (pomC p pv mv dv).toArray] w fun e w' => e = .returned (.bool (mayP p)) ∧ Below w.heap.size w w' := by
 obtain ⟨r, hr⟩ : ∃ r, r = mayP p := ⟨_, rfl⟩
 have HR0 : Hid (r = mayP p) := hr
 rw [← hr]
 clear hr
 obtain ⟨-, p1, p2, p3⟩ := hp
 obtain ⟨hpo, hpp, hpm, hpd, hpg⟩ := hs
 obtain ⟨hp, ⟨px, py, pz⟩, dg, da, dv, dk, dp, dm, dd⟩ := p
 simp only [pomC]
 simp only at p1 p2 p3 hpo hpp hpm hpd hpg
 have hl1 : dp.length ≤ 9223372036854775807 := by obtain ⟨a, c, e, h2, h3, -⟩ := p1; exact Nat.le_trans h2 (Nat.le_trans h3 (by decide))
 obtain ⟨ao1, cap1, rfl⟩ := p1.shape
 obtain ⟨ao2, cap2, rfl⟩ := p2.shape
 obtain ⟨ao3, cap3, rfl⟩ := p3.shape
 obtain ⟨bg, hbg⟩ : ∃ b, b = okW dg true := ⟨_, rfl⟩
 obtain ⟨ba, hba⟩ : ∃ b, b = okW da false := ⟨_, rfl⟩
 obtain ⟨bv, hbv⟩ : ∃ b, b = okW dv true := ⟨_, rfl⟩
 obtain ⟨bk, hbk⟩ : ∃ b, b = okW dk true := ⟨_, rfl⟩
 obtain ⟨pb, hpb⟩ : ∃ b, b = parentB hp ⟨px, py, pz⟩ := ⟨_, rfl⟩
 have Hbg : Hid (∀ W, Calls Tryz.prog 67 #[.string dg, .bool true] W fun e w' => e = .returned (.bool bg) ∧ Below W.heap.size W w') := fun W => by rw [hbg]; exact isTextQ_any dg true W (hpo _ (by simp))
 have Hba : Hid (∀ W, Calls Tryz.prog 67 #[.string da, .bool false] W fun e w' => e = .returned (.bool ba) ∧ Below W.heap.size W w') := fun W => by rw [hba]; exact isTextQ_any da false W (hpo _ (by simp))
 have Hbv : Hid (∀ W, Calls Tryz.prog 67 #[.string dv, .bool true] W fun e w' => e = .returned (.bool bv) ∧ Below W.heap.size W w') := fun W => by rw [hbv]; exact isTextQ_any dv true W (hpo _ (by simp))
 have Hbk : Hid (∀ W, Calls Tryz.prog 67 #[.string dk, .bool true] W fun e w' => e = .returned (.bool bk) ∧ Below W.heap.size W w') := fun W => by rw [hbk]; exact isTextQ_any dk true W (hpo _ (by simp))

 obtain ⟨bq, hbq⟩ : ∃ b, b = propsGo dp [] := ⟨_, rfl⟩
 obtain ⟨bm, hbm⟩ : ∃ b, b = (dm.all (mayD 6) && decide (dm.length ≤ 1024)) := ⟨_, rfl⟩
 obtain ⟨bd, hbd⟩ : ∃ b, b = (dd.all (mayD 5) && decide (dd.length ≤ 1024)) := ⟨_, rfl⟩
 have HPR : Hid (∀ W, Below w.heap.size w W → Calls Tryz.prog 68 #[.slice ao1 dp.length cap1] W fun e w' => e = .returned (.bool (bq && decide (dp.length ≤ 1024))) ∧ Below W.heap.size W w') := fun W h => by rw [hbq]; exact isPropsQ_any dp _ W (p1.below h) hpp
 have HMD : Hid (∀ W, Below w.heap.size w W → Calls Tryz.prog 69 #[.slice ao2 (dm).length cap2, .bool true] W fun e w' => e = .returned (.bool bm) ∧ Below W.heap.size W w') := fun W h => by rw [hbm]; exact isDepsQ_any true dm _ W (p2.below h) hpm
 have HDD : Hid (∀ W, Below w.heap.size w W → Calls Tryz.prog 69 #[.slice ao3 (dd).length cap3, .bool false] W fun e w' => e = .returned (.bool bd) ∧ Below W.heap.size W w') := fun W h => by rw [hbd]; exact isDepsQ_any false dd _ W (p3.below h) hpd
 have HGV : Hid (hp = true → ∀ W, Calls Tryz.prog 66 #[.agg #[.string px, .string py, .string pz]] W fun e w' => e = .returned (.bool pb) ∧ Below W.heap.size W w') := fun h W => by
  rw [hpb, h]; exact mayGav_any ⟨px, py, pz⟩ W (by have := hpg; exact this)
 have HZV0 : Hid (hp = false → pb = (decide (px = ⟨#[]⟩) && (decide (py = ⟨#[]⟩) && decide (pz = ⟨#[]⟩)))) := fun h => by rw [hpb, h]; unfold parentB; simp
 have HR : Hid (r = (pb && ((bg && (ba && (bv && bk))) && (decide (dp.length ≤ 1024) && (bq && (bm && bd)))))) := by
  show _ = _
  rw [HR0.out, hpb, hbg, hba, hbv, hbk, hbq, hbm, hbd]
  rfl
 have HBB : Hid (∀ o, Below w.heap.size w (w.alloc o)) := fun o => (Below.refl _ _).alloc (Nat.le_refl _) _
 clear hbg hba hbv hbk hpb hbq hbm hbd HR0 p1 p2 p3 hpo hpp hpm hpd hpg
 go_enter Tryz.func24, Tryz.ntmps24
 go_upto_region 1 with fail
 refine wp_world ?_
 intro W hW
 have x1 : Box W w.heap.size [.bool hp, .string px, .string py, .string pz, .string dg, .string da, .string dv, .string dk, .slice ao1 dp.length cap1, .slice ao2 (dm).length cap2, .slice ao3 (dd).length cap3] := by rw [hW]; exact Box.new w [.bool hp, .string px, .string py, .string pz, .string dg, .string da, .string dv, .string dk, .slice ao1 dp.length cap1, .slice ao2 (dm).length cap2, .slice ao3 (dd).length cap3] _ _ rfl
 have hb : Below w.heap.size w W := by rw [hW]; exact HBB.out _
 clear hW HBB
 have HX := Lib.hid x1
 have HB := Lib.hid hb
 clear x1 hb
 obtain ⟨c0, c1, c2, c3, c4, c5, c6, c7, c8, c9, c10⟩ := bxc11 HX.out
 have cl := HX.out.lt
 go_upto_if 10 with fail
 obtain ⟨z, hz⟩ : ∃ z, z = (decide (px = ⟨#[]⟩) && decide (py = ⟨#[]⟩) && decide (pz = ⟨#[]⟩)) := ⟨_, rfl⟩
 have HZV : Hid (hp = false → pb = z) := fun h => by rw [HZV0.out h, hz, Bool.and_assoc]
 rw [← hz]
 clear hz
 go_cut [3] from 9 to 13 (fun v wx => v = .bool pb ∧ Hid (Below w.heap.size w wx ∧ Box wx w.heap.size [.bool hp, .string px, .string py, .string pz, .string dg, .string da, .string dv, .string dk, .slice ao1 dp.length cap1, .slice ao2 (dm).length cap2, .slice ao3 (dd).length cap3]))
 case first =>
  cases hp with
  | false =>
   have HZ := Lib.hid (HZV.out rfl)
   go_wp2
   go_meet
   case rel => exact ⟨by rw [HZ.out], HB.out, HX.out⟩
  | true =>
   have HG := Lib.hid (HGV.out rfl)
   go_wp2_with fail
   refine (HG.out _).mono ?_
   rintro e w7 ⟨rfl, hb7⟩
   have HX1 := Lib.hid (HX.out.below hb7 HX.out.lt)
   have HB1 := Lib.hid (HB.out.trans (hb7.mono HB.out.size))
   clear hb7
   go_wp2
   go_meet
   case rel => exact ⟨rfl, HB1.out, HX1.out⟩
 case rest =>
  obtain ⟨rfl, hcc⟩ := hcut
  clear c0 c1 c2 c3 c4 c5 c6 c7 c8 c9 c10 cl HX HB HGV HZV HZV0
  have HB := Lib.hid hcc.out.1
  have HX := Lib.hid hcc.out.2
  clear hcc
  obtain ⟨c0, c1, c2, c3, c4, c5, c6, c7, c8, c9, c10⟩ := bxc11 HX.out
  have cl := HX.out.lt
  go_upto_region 4 with fail
  go_cut [4] from 14 to 31 (fun v wx => v = .bool (bg && (ba && (bv && bk))) ∧ Hid (Below w.heap.size w wx ∧ Box wx w.heap.size [.bool hp, .string px, .string py, .string pz, .string dg, .string da, .string dv, .string dk, .slice ao1 dp.length cap1, .slice ao2 (dm).length cap2, .slice ao3 (dd).length cap3]))
  case first =>
   go_wp2_with fail
   refine (Hbg.out _).mono ?_
   rintro e w7 ⟨rfl, hb7⟩
   have HX1 := Lib.hid (HX.out.below hb7 HX.out.lt)
   have HB1 := Lib.hid (HB.out.trans (hb7.mono HB.out.size))
   clear c0 c1 c2 c3 c4 c5 c6 c7 c8 c9 c10 cl
   clear hb7 HX HB Hbg
   have HX := HX1
   have HB := HB1
   clear HX1 HB1
   cases bg with
   | false =>
    obtain ⟨c0, c1, c2, c3, c4, c5, c6, c7, c8, c9, c10⟩ := bxc11 HX.out
    have cl := HX.out.lt
    go_wp2
    go_meet
    case rel => exact ⟨by simp, HB.out, HX.out⟩
   | true =>
    obtain ⟨c0, c1, c2, c3, c4, c5, c6, c7, c8, c9, c10⟩ := bxc11 HX.out
    have cl := HX.out.lt
    go_wp2_with fail
    refine (Hba.out _).mono ?_
    rintro e w7 ⟨rfl, hb7⟩
    have HX1 := Lib.hid (HX.out.below hb7 HX.out.lt)
    have HB1 := Lib.hid (HB.out.trans (hb7.mono HB.out.size))
    clear c0 c1 c2 c3 c4 c5 c6 c7 c8 c9 c10 cl
    clear hb7 HX HB Hba
    have HX := HX1
    have HB := HB1
    clear HX1 HB1
    cases ba with
    | false =>
     obtain ⟨c0, c1, c2, c3, c4, c5, c6, c7, c8, c9, c10⟩ := bxc11 HX.out
     have cl := HX.out.lt
     go_wp2
     go_meet
     case rel => exact ⟨by simp, HB.out, HX.out⟩
    | true =>
     obtain ⟨c0, c1, c2, c3, c4, c5, c6, c7, c8, c9, c10⟩ := bxc11 HX.out
     have cl := HX.out.lt
     go_wp2_with fail
     refine (Hbv.out _).mono ?_
     rintro e w7 ⟨rfl, hb7⟩
     have HX1 := Lib.hid (HX.out.below hb7 HX.out.lt)
     have HB1 := Lib.hid (HB.out.trans (hb7.mono HB.out.size))
     clear c0 c1 c2 c3 c4 c5 c6 c7 c8 c9 c10 cl
     clear hb7 HX HB Hbv
     have HX := HX1
     have HB := HB1
     clear HX1 HB1
     cases bv with
     | false =>
      obtain ⟨c0, c1, c2, c3, c4, c5, c6, c7, c8, c9, c10⟩ := bxc11 HX.out
      have cl := HX.out.lt
      go_wp2
      go_meet
      case rel => exact ⟨by simp, HB.out, HX.out⟩
     | true =>
      obtain ⟨c0, c1, c2, c3, c4, c5, c6, c7, c8, c9, c10⟩ := bxc11 HX.out
      have cl := HX.out.lt
      go_wp2_with fail
      refine (Hbk.out _).mono ?_
      rintro e w7 ⟨rfl, hb7⟩
      have HX1 := Lib.hid (HX.out.below hb7 HX.out.lt)
      have HB1 := Lib.hid (HB.out.trans (hb7.mono HB.out.size))
      clear c0 c1 c2 c3 c4 c5 c6 c7 c8 c9 c10 cl
      clear hb7 HX HB Hbk
      have HX := HX1
      have HB := HB1
      clear HX1 HB1
      obtain ⟨c0, c1, c2, c3, c4, c5, c6, c7, c8, c9, c10⟩ := bxc11 HX.out
      have cl := HX.out.lt
      cases bk
      all_goals
       go_wp2
       go_meet
       case rel => exact ⟨rfl, HB.out, HX.out⟩
  case rest =>
   obtain ⟨rfl, hcc⟩ := hcut
   clear c0 c1 c2 c3 c4 c5 c6 c7 c8 c9 c10 cl HX HB Hbg Hba Hbv Hbk
   have HB := Lib.hid hcc.out.1
   have HX := Lib.hid hcc.out.2
   clear hcc
   have HR1 : Hid (∀ t, t = (bg && (ba && (bv && bk))) → r = (pb && (t && (decide (dp.length ≤ 1024) && (bq && (bm && bd)))))) := fun t ht => by rw [HR.out, ht]
   obtain ⟨tx, htx⟩ : ∃ t, t = (bg && (ba && (bv && bk))) := ⟨_, rfl⟩
   have HR2 := Lib.hid (HR1.out tx htx)
   rw [← htx]
   clear HR1 HR htx
   have HR := HR2
   clear HR2
   obtain ⟨c0, c1, c2, c3, c4, c5, c6, c7, c8, c9, c10⟩ := bxc11 HX.out
   have cl := HX.out.lt
   cases pb with
   | false =>
    go_wp2
    go_ret
    exact ⟨by rw [HR.out]; rfl, HB.out⟩
   | true =>
    cases tx with
    | false =>
     go_wp2
     go_ret
     exact ⟨by rw [HR.out]; rfl, HB.out⟩
    | true =>
     by_cases hq : dp.length ≤ 1024
     rotate_left
     · have hI : ¬ (dp.length : Int) ≤ 1024 := by omega
       have HN : Hid (r = false) := by show _ = _; rw [HR.out, decide_eq_false hq]; rfl
       clear hq
       go_wp2
       go_ret
       refine ⟨?_, HB.out⟩
       rw [HN.out]
       first | rfl | exact ret_bool (decide_eq_false (by omega))
     have hI : (dp.length : Int) ≤ 1024 := by omega
     have HRA : Hid (r = (bq && (bm && bd))) := by show _ = _; rw [HR.out, decide_eq_true hq]; rfl
     rw [decide_eq_true hq, Bool.and_true] at HPR
     clear HR hq
     go_wp2_with fail
     refine (HPR.out _ HB.out).mono ?_
     rintro e w7 ⟨rfl, hb7⟩
     have HX1 := Lib.hid (HX.out.below hb7 HX.out.lt)
     have HB1 := Lib.hid (HB.out.trans (hb7.mono HB.out.size))
     clear c0 c1 c2 c3 c4 c5 c6 c7 c8 c9 c10 cl
     clear hb7 HX HB HPR
     have HX := HX1
     have HB := HB1
     clear HX1 HB1
     cases bq with
     | false =>
      obtain ⟨c0, c1, c2, c3, c4, c5, c6, c7, c8, c9, c10⟩ := bxc11 HX.out
      have cl := HX.out.lt
      go_wp2
      go_ret
      exact ⟨by rw [HRA.out]; first | rfl | simp, HB.out⟩
     | true =>
      obtain ⟨c0, c1, c2, c3, c4, c5, c6, c7, c8, c9, c10⟩ := bxc11 HX.out
      have cl := HX.out.lt
      go_wp2_with fail
      refine (HMD.out _ HB.out).mono ?_
      rintro e w7 ⟨rfl, hb7⟩
      have HX1 := Lib.hid (HX.out.below hb7 HX.out.lt)
      have HB1 := Lib.hid (HB.out.trans (hb7.mono HB.out.size))
      clear c0 c1 c2 c3 c4 c5 c6 c7 c8 c9 c10 cl
      clear hb7 HX HB HMD
      have HX := HX1
      have HB := HB1
      clear HX1 HB1
      cases bm with
      | false =>
       obtain ⟨c0, c1, c2, c3, c4, c5, c6, c7, c8, c9, c10⟩ := bxc11 HX.out
       have cl := HX.out.lt
       go_wp2
       go_ret
       exact ⟨by rw [HRA.out]; first | rfl | simp, HB.out⟩
      | true =>
       obtain ⟨c0, c1, c2, c3, c4, c5, c6, c7, c8, c9, c10⟩ := bxc11 HX.out
       have cl := HX.out.lt
       go_wp2_with fail
       refine (HDD.out _ HB.out).mono ?_
       rintro e w7 ⟨rfl, hb7⟩
       have HX1 := Lib.hid (HX.out.below hb7 HX.out.lt)
       have HB1 := Lib.hid (HB.out.trans (hb7.mono HB.out.size))
       clear c0 c1 c2 c3 c4 c5 c6 c7 c8 c9 c10 cl
       clear hb7 HX HB HDD
       have HX := HX1
       have HB := HB1
       clear HX1 HB1
       obtain ⟨c0, c1, c2, c3, c4, c5, c6, c7, c8, c9, c10⟩ := bxc11 HX.out
       have cl := HX.out.lt
       cases bd
       all_goals
        go_wp2
        go_ret
        exact ⟨by rw [HRA.out]; rfl, HB.out⟩

end Go.Proofs.YtbbbfjcikhpmbaaGreat

/- A region that draws its order, by an invariant on what has come up: the count of what is left, and that something may come up, in general; no program in sight. -/

namespace Go.Proofs.YtbbbfjcikhpmbaaGreat
open Go Go.RowKit

/-- Each operation waits only for ones ahead of it in the text. -/
def backB (ops : Array Oper) : Bool := (List.range ops.size).all fun j => ((ops[j]?).map fun o => o.after.all fun e => !Region.binds .any e || decide (e.on < j)).getD true
theorem ready_ne {ops : Array Oper} {listed : Array Bool} (hb : backB ops = true) (hs : listed.size = ops.size) : ∀ (j : Nat), listed[j]? = some false → Region.ready .any ops listed ≠ [] := by
 intro j
 induction j using Nat.strongRecOn with
 | ind j ih =>
  intro hj e
  have hlt : j < listed.size := (Array.getElem?_eq_some_iff.1 hj).1
  have hlo : j < ops.size := by omega
  by_cases hx : ∃ i, i < j ∧ listed[i]? = some false
  · obtain ⟨i, hi, h⟩ := hx
    exact ih i hi h e
  · have hm : j ∈ Region.ready .any ops listed := by
     unfold Region.ready
     rw [List.mem_filter, List.mem_range]
     refine ⟨hlo, ?_⟩
     have h0 : listed.getD j true = false := by simp [Array.getD_eq_getD_getElem?, hj]
     rw [h0, Array.getElem?_eq_getElem hlo]
     simp only [Bool.not_false, Bool.true_and, Option.map_some, Option.getD_some]
     rw [Array.all_eq_true_iff_forall_mem]
     intro ed hed
     unfold backB at hb
     rw [List.all_eq_true] at hb
     have h1 := hb j (List.mem_range.2 hlo)
     rw [Array.getElem?_eq_getElem hlo] at h1
     simp only [Option.map_some, Option.getD_some] at h1
     rw [Array.all_eq_true_iff_forall_mem] at h1
     have h2 := h1 ed hed
     rw [Bool.or_eq_true] at h2 ⊢
     rcases h2 with h2 | h2
     · exact .inl h2
     · right
       have h3 : ed.on < j := of_decide_eq_true h2
       have h4 : ed.on < listed.size := by omega
       have h5 : listed[ed.on]? ≠ some false := fun h => hx ⟨_, h3, h⟩
       rw [Array.getElem?_eq_getElem h4] at h5
       rw [Array.getD_eq_getD_getElem?, Array.getElem?_eq_getElem h4]
       simpa using h5
    rw [e] at hm
    cases hm
theorem ready_nil {ops : Array Oper} {listed : Array Bool} (hs : listed.size = ops.size) (h : listed.toList.count false = 0) : Region.ready .any ops listed = [] := by
 unfold Region.ready
 rw [List.filter_eq_nil_iff]
 intro i hi
 have hlt : i < listed.size := by have := List.mem_range.1 hi; omega
 rw [List.count_eq_zero] at h
 have h1 : listed[i] ≠ false := fun e => h (by rw [← e]; simp)
 have h2 : listed.getD i true = true := by
  rw [Array.getD_eq_getD_getElem?, Array.getElem?_eq_getElem hlt]
  simpa using h1
 simp [h2]
theorem count_set : ∀ (l : List Bool) (i : Nat), l[i]? = some false → (l.set i true).count false + 1 = l.count false
 | [], i, h => by simp at h
 | b :: l, 0, h => by
  simp at h
  subst h
  simp
 | b :: l, i + 1, h => by
  have h1 := count_set l i (by simpa using h)
  rw [List.set_cons_succ, List.count_cons, List.count_cons]
  omega
/-- The region, by an invariant that speaks of the frame at its head, of what has come up, of the frame and of the world. -/
theorem wp_region_flags {P : Program} {ops : Array Oper} {Q : Exit → Act → World → Prop} {id : Nat} {a : Act} {w : World} (J : Act → Array Bool → Act → World → Prop) (hm : P.follows .mixedOrders = true) (k : Nat) (hk : ops.size = k) (hb : backB ops = true)
    (hi : J a (Array.replicate k false) a w.drew)
    (h0 : ∀ a' w', J a (Array.replicate k true) a' w' → Q .normal a' w')
    (hs : ∀ listed a' w', J a listed a' w' → ∀ i ∈ Region.ready .any ops listed, wpOp P ops Q i (fun a'' w'' => J a (listed.setIfInBounds i true) a'' w'') a' w') :
    (Code.region id ops true).wp P Q a w := by
 refine wp_region_inv (fun n listed a' w' => listed.size = k ∧ listed.toList.count false = n ∧ J a listed a' w') hm k hk ⟨by simp, by simp, hi⟩ ?_ ?_ ?_
 · rintro listed a' w' ⟨h1, h2, h3⟩
   refine ⟨ready_nil (by omega) h2, h0 a' w' ?_⟩
   have : listed = Array.replicate k true := by
    apply Array.ext
    · simp [h1]
    · intro i hi hi'
      rw [List.count_eq_zero] at h2
      have h4 : listed[i] ≠ false := fun e => h2 (by rw [← e]; simp)
      simpa using h4
   rw [← this]; exact h3
 · rintro n listed a' w' ⟨h1, h2, h3⟩
   have hmem : false ∈ listed.toList := by
    rw [← List.count_pos_iff]; omega
   obtain ⟨j, hj, e⟩ := List.mem_iff_getElem.1 hmem
   exact ready_ne hb (by omega) j (by rw [Array.getElem?_eq_getElem (by simpa using hj)]; simpa using e)
 · rintro n listed a' w' ⟨h1, h2, h3⟩ i hi
   have hu := (mem_ready.1 hi).1
   refine wpOp_mono (fun a'' w'' h4 => ⟨by simpa using h1, ?_, h4⟩) (hs listed a' w' h3 i hi)
   have h5 : listed.toList[i]? = some false := by
    rw [Array.getElem?_toList]
    rw [Array.getD_eq_getD_getElem?] at hu
    cases h : listed[i]? with
    | none => rw [h] at hu; simp at hu
    | some b => rw [h] at hu; simpa using hu
   have h6 := count_set _ _ h5
   rw [Array.toList_setIfInBounds]
   omega
theorem wp_region_flags0 {P : Program} {ops : Array Oper} {Q : Exit → Act → World → Prop} {id : Nat} {a : Act} {w : World} (J : Array Bool → Act → World → Prop) (hm : P.follows .mixedOrders = true) (k : Nat) (hk : ops.size = k) (hb : backB ops = true)
    (hi : J (Array.replicate k false) a w.drew)
    (h0 : ∀ a' w', J (Array.replicate k true) a' w' → Q .normal a' w')
    (hs : ∀ listed a' w', J listed a' w' → ∀ i ∈ Region.ready .any ops listed, wpOp P ops Q i (fun a'' w'' => J (listed.setIfInBounds i true) a'' w'') a' w') :
    (Code.region id ops true).wp P Q a w := wp_region_flags (fun _ => J) hm k hk hb hi h0 hs
/-- One operation that has come up: it is carried out, or its guard keeps it out. -/
theorem wpOp_do {P : Program} {ops : Array Oper} {Q : Exit → Act → World → Prop} {i : Nat} {K : Act → World → Prop} {a : Act} {w : World} {o : Oper} (ho : ops[i]? = some o) (hw : Region.wanted o (yielded ops a.tmps) = true) (h : o.wp P a w K Q) : wpOp P ops Q i K a w := by
 unfold wpOp
 rw [ho]
 simp only [hw, if_true]
 exact .inl h

end Go.Proofs.YtbbbfjcikhpmbaaGreat

/- A variable of the call's own that holds a struct: loads, results; append in a region walked by flags; rows beside the call's own variable; the conditions stand in the theorems. -/

namespace Go.Proofs.YtbbbfjcikhpmbaaGreat
open Go Go.RowKit

theorem wpList_load_box {P : Program} {ops : Array Oper} {rest : List Oper} {op : Oper} {a : Act} {w : World} {Q : Exit → Act → World → Prop} (hgd : op.guard = none) (ty : TypeId) (x : Operand) (ho : op.op = .load ty x)
    (b : Nat) (cs : List Value) (hx : a.eval x = .pointer (some ⟨b, 0, none⟩)) (hb : Box w b cs) {d : TypeDesc} (hu : P.underlying ty = some d) (hd : d.isRow = true) (hi : (P.info? ty).map (·.size) = some cs.length)
    (h : wpList P ops Q rest (a.put op.dst (.agg cs.toArray)) w) : wpList P ops Q (op :: rest) a w :=
 wpList_load_mid hgd ty x ho b 0 hx cs d (fun j v hv => by rw [Nat.zero_add]; exact hb.cell j v hv) hu hd hi h
theorem results_cell_box {P : Program} {fn : Func} {p : Tmp} {ty : TypeId} (h : fn.results = #[.cell p ty]) (tmps : Array Value) (w : World) (b : Nat) (cs : List Value) (hp : tmps.getD p undef = .pointer (some ⟨b, 0, none⟩)) (hb : Box w b cs)
    {d : TypeDesc} (hu : P.underlying ty = some d) (hd : d.isRow = true) (hi : (P.info? ty).map (·.size) = some cs.length) : (results fn tmps).run P w = .ok (.agg cs.toArray) w := by
 have hp' : tmps[p]?.getD undef = .pointer (some ⟨b, 0, none⟩) := by simpa using hp
 simp [results, h, hp', asAddr, run_loadVar_mid w b 0 ty cs d (fun j v hv => by rw [Nat.zero_add]; exact hb.cell j v hv) hu hd hi]
theorem wp_append_one {P : Program} {o : Oper} {a : Act} {w : World} {K : Act → World → Prop} {Q : Exit → Act → World → Prop} {α : Type} {C : α → List Value} (hgd : o.guard = none) (s x : Operand) (t : TypeId)
    (ho : o.op = .call { callee := .builtin .append, args := #[s, x], argTypes := #[t, t] })
    (base : Nat) (e : TypeId) {z : Value} {size bytes : Nat} (ht : P.underlying t = some (.slice e)) (hinfo : (P.info? e).map (fun i => (i.zero, i.size, i.bytes)) = some (some z, size, bytes)) (hzs : z.cells.size = size) (hsz : 0 < size) (hC : ∀ y, (C y).length = size)
    (v : Value) (l : List α) (hs : a.eval s = v) (hown : Owns base e size C w v l) (H : Nat) (y : α) (hx : a.eval x = .slice (some ⟨H, 0, none⟩) 1 1) (hnews : ∀ j u, (C y)[j]? = some u → w.cell? ⟨H, j, none⟩ = some u) (h1 : ∀ u ∈ C y, u.oneCell' = true)
    (hbytes : (l.length + 1) * bytes ≤ 140737488355328) (hb0 : 0 < bytes) (hbase : base ≤ w.heap.size) (N : Nat) (hN : w.heap.size = N)
    (h : ∀ g cap w', Owns base e size C w' (.slice (some ⟨g, 0, none⟩) (l.length + 1) cap) (l ++ [y]) → w.grownBy w' v.ownBlock → (v.ownBlock = some g ∨ g = N) → g < w'.heap.size → K (a.put o.dst (.slice (some ⟨g, 0, none⟩) (l.length + 1) cap)) w') : Oper.wp P o a w K Q := by
 have h2 := step_append_one (ops := #[]) (Q := Q) (E := True) hgd s x t ho base e ht hinfo hzs hsz hC v l hs hown H y hx hnews h1 hbytes hb0 hbase N hN h
 rwa [if_pos (by simp [Region.wanted, hgd])] at h2
/-- Blocks from B on may have turned where only the row has, and that lies from B on. -/
theorem below_row {B g : Nat} {w w' : World} (hg : w.grownBy w' (some g)) (hB : B ≤ g) (hs : B ≤ w.heap.size) : Below B w w' :=
 ⟨hg.os, hg.tape, hg.output, hg.size, fun k hk => hg.block k (by omega) (by intro e; cases e; omega)⟩
theorem grown_after {v w w' : World} {row : Option Nat} (h : Below v.heap.size v w) (hg : w.grownBy w' row) : v.grownBy w' row :=
 ⟨hg.os.trans h.os, hg.tape.trans h.tape, hg.output.trans h.output, Nat.le_trans h.size hg.size, fun k hk hne => (hg.block k (Nat.lt_of_lt_of_le hk h.size) hne).trans (h.block k hk)⟩
/-- A row of the call's own beside the variable that turns. -/
theorem grown_row {v w w' : World} {g : Nat} {x : Value} {B : Nat} (h : v.grownBy w (some g)) (hg : w.grownBy w' x.ownBlock) (hx : ∀ k, x.ownBlock = some k → B ≤ k) (hB : v.heap.size ≤ B) : v.grownBy w' (some g) :=
 ⟨hg.os.trans h.os, hg.tape.trans h.tape, hg.output.trans h.output, Nat.le_trans h.size hg.size, fun k hk hne => (hg.block k (Nat.lt_of_lt_of_le hk h.size) (fun e => by have := hx k e.symm; omega)).trans (h.block k hk hne)⟩
theorem grown_then {v w w' : World} {row : Option Nat} (h : v.grownBy w row) (hb : Below w.heap.size w w') : v.grownBy w' row :=
 ⟨hb.os.trans h.os, hb.tape.trans h.tape, hb.output.trans h.output, Nat.le_trans h.size hb.size, fun k hk hne => (hb.block k (Nat.lt_of_lt_of_le hk h.size)).trans (h.block k hk hne)⟩
theorem grown_join {v w w' : World} {g : Nat} (h : v.grownBy w (some g)) (hg : w.grownBy w' (some g)) : v.grownBy w' (some g) := h.trans hg
theorem false_of {a b : Bool} (h : a = true → b = true) (hb : b = false) : a = false := Bool.eq_false_iff.2 fun e => by rw [h e] at hb; cases hb

end Go.Proofs.YtbbbfjcikhpmbaaGreat
