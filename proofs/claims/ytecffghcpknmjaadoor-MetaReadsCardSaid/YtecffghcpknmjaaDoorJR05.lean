/- The walks of meta.May and of the document's; the conditions stand in the theorems. -/
import Derived.Test.YtecffghcpknmjaaDoorJR04
import Derived.Test.YtecffghcpknmjaaDoorOwn
import Derived.Test.YtecffghcpknmjaaDoorL1
import Derived.Test.YtecffghcpknmjaaDoorL0
import Derived.Test.YtecffghcpknmjaaDoorG1
import Derived.StillTailTactics
import Derived.IntWalk
import Derived.Test.YtecffghcpknmjaaDoorK19
import Derived.Test.YtecffghcpknmjaaDoorL11
import Derived.Test.YtecffghcpknmjaaDoorG2
import Derived.Test.YtecffghcpknmjaaDoorQB
import Derived.Deep.CutBlock

namespace Go.Proofs.YtecffghcpknmjaaDoor
open Go Go.RowKit

def memB (l : List S) (x : S) : Bool := l.any fun y => decide (y = x)
theorem memB_iff {l : List S} {x : S} : memB l x = true ↔ x ∈ l := by unfold memB; rw [List.any_eq_true]; simp
def stepM (l : List S) (k : Nat) (v : S) : Bool := verMay v && !memB (l.take k) v && !(decide (0 < k) && decide (0 < cmpSV (l.getD (k - 1) ⟨#[]⟩) v))
def rowM (l : List S) : Nat → Nat → Bool
  | 0, _ => true
  | n + 1, k => (match l[k]? with
    | none => true
    | some v => stepM l k v) && rowM l n (k + 1)
def mayM (m : MetaD) : Bool := isIdB m.id.group && isIdB m.id.artifact && !m.vers.isEmpty && decide (m.vers.length ≤ 1024) && rowM m.vers m.vers.length 0 && decide (m.latest = lastV m.vers) && decide (m.rel = relV m.vers)
theorem rowM_step {l : List S} {k : Nat} (h : k < l.length) : rowM l (l.length - k) k = (stepM l k l[k] && rowM l (l.length - (k + 1)) (k + 1)) := by
  rw [show l.length - k = (l.length - (k + 1)) + 1 by omega]
  conv => lhs; unfold rowM
  rw [List.getElem?_eq_getElem h]
theorem rowM_end (l : List S) : rowM l (l.length - l.length) l.length = true := by rw [Nat.sub_self]; rfl
/-- The sizes that a Meta's texts have. -/
structure MetaSm (m : MetaD) : Prop where
  g : m.id.group.size ≤ 9223372036854775807
  a : m.id.artifact.size ≤ 9223372036854775807
  n : m.vers.length ≤ 1000000
  v : AllSmall m.vers
theorem containsV_any {w : World} {b o c n : Nat} {l : List S} (x : S) (h : SliceOf 1 strC w (.slice (some ⟨b, o, none⟩) l.length c) l) (hn : n ≤ l.length) (hl : l.length ≤ 1000000) (c' : Nat) :
    Calls Tryd.prog 33 #[.slice (some ⟨b, o, none⟩) n c', .string x] w fun e w' => e = .returned (.bool (memB (l.take n) x)) ∧ w = w' :=
  (Tryd.slices_Contains_string b o n c' l x w hn (by omega) (cellsOf h)).mono fun e w' ⟨h1, h2⟩ => ⟨by
    rw [h1]
    congr 2
    rw [Bool.eq_iff_iff, Lib.containsS_iff, memB_iff], h2.symm⟩
attribute [local go_sem ↓] str_beqV in
set_option maxRecDepth 100000 in
set_option maxHeartbeats 4000000 in
theorem metaMay_any (m : MetaD) (v : Value) (w : World) (h : SliceOf 1 strC w v m.vers) (hsm : MetaSm m) :
    Calls Tryd.prog 13 #[metaAg m v] w fun e w' => e = .returned (.bool (mayM m)) ∧ Below w.heap.size w w' := by
  have HG := Lib.hid hsm.g
  have HA := Lib.hid hsm.a
  have HLN := Lib.hid hsm.n
  have HSMALL := Lib.hid hsm.v
  have HS := Lib.hid h
  obtain ⟨ao, c, rfl⟩ := h.shape
  have HM : Hid (mayM m = (isIdB m.id.group && isIdB m.id.artifact && !m.vers.isEmpty && decide (m.vers.length ≤ 1024) && rowM m.vers m.vers.length 0 && decide (m.latest = lastV m.vers) && decide (m.rel = relV m.vers))) := rfl
  clear h hsm
  obtain ⟨⟨mg, ma⟩, l, la, re⟩ := m
  simp only at HG HA HLN HSMALL HS HM
  obtain ⟨MM, hMM⟩ : ∃ x, mayM ⟨⟨mg, ma⟩, l, la, re⟩ = x := ⟨_, rfl⟩
  rw [hMM] at HM ⊢
  clear hMM
  unfold metaAg metaC
  go_enter Tryd.func13, Tryd.ntmps13
  go_upto_region 1 with fail
  refine wp_world ?_
  intro W hW
  have x1 : Box W w.heap.size [.string mg, .string ma, .slice ao l.length c, .string la, .string re] := by rw [hW]; exact Box.new w [.string mg, .string ma, .slice ao l.length c, .string la, .string re] _ _ rfl
  have hb : Below w.heap.size w W := by rw [hW]; exact (Below.refl _ w).alloc (Nat.le_refl _) _
  clear hW
  have HX := Lib.hid x1
  have HB := Lib.hid hb
  clear x1 hb
  have x0 := HX.out.cell 0 _ rfl
  have x1 := HX.out.cell 1 _ rfl
  have x2 := HX.out.cell 2 _ rfl
  have x3 := HX.out.cell 3 _ rfl
  have x4 := HX.out.cell 4 _ rfl
  have xl := HX.out.lt
  go_wp2_with fail
  refine (isId_any mg _ HG.out).mono ?_
  rintro e w1 ⟨rfl, hb1⟩
  have HX1 := Lib.hid (HX.out.below hb1 HX.out.lt)
  have HB1 := Lib.hid (HB.out.trans (hb1.mono HB.out.size))
  clear x0 x1 x2 x3 x4 xl
  clear hb1 HX HB
  cases hg : isIdB mg with
  | false =>
    rw [hg] at HM
    clear hg
    go_wp2
    go_ret
    exact ⟨by rw [HM.out]; simp, HB1.out⟩
  | true =>
    rw [hg] at HM
    clear hg
    have x0 := HX1.out.cell 0 _ rfl
    have x1 := HX1.out.cell 1 _ rfl
    have x2 := HX1.out.cell 2 _ rfl
    have x3 := HX1.out.cell 3 _ rfl
    have x4 := HX1.out.cell 4 _ rfl
    have xl := HX1.out.lt
    go_wp2_with fail
    refine (isId_any ma _ HA.out).mono ?_
    rintro e w2 ⟨rfl, hb2⟩
    have HX2 := Lib.hid (HX1.out.below hb2 HX1.out.lt)
    have HB2 := Lib.hid (HB1.out.trans (hb2.mono HB1.out.size))
    clear x0 x1 x2 x3 x4 xl
    clear hb2 HX1 HB1
    have x0 := HX2.out.cell 0 _ rfl
    have x1 := HX2.out.cell 1 _ rfl
    have x2 := HX2.out.cell 2 _ rfl
    have x3 := HX2.out.cell 3 _ rfl
    have x4 := HX2.out.cell 4 _ rfl
    have xl := HX2.out.lt
    cases hg : isIdB ma with
    | false =>
      rw [hg] at HM
      clear hg
      go_wp2
      go_ret
      exact ⟨by rw [HM.out]; simp, HB2.out⟩
    | true =>
      rw [hg] at HM
      clear hg
      by_cases h0 : l.length = 0
      · have e0 : ((l.length : Int) == 0) = true := by rw [beq_iff_eq]; omega
        have e0n : (l.length == 0) = true := by rw [beq_iff_eq]; exact h0
        have HE : Hid (l.isEmpty = true) := by show _ = _; rw [List.isEmpty_iff]; exact List.eq_nil_of_length_eq_zero h0
        clear h0
        go_wp2
        go_ret
        exact ⟨by rw [HM.out, HE.out]; simp, HB2.out⟩
      · have e0 : ((l.length : Int) == 0) = false := by rw [beq_eq_false_iff_ne]; omega
        have e0n : (l.length == 0) = false := by rw [beq_eq_false_iff_ne]; exact h0
        have HE : Hid (l.isEmpty = false) := by show _ = _; rw [List.isEmpty_eq_false_iff]; intro e; rw [e] at h0; exact h0 rfl
        by_cases h1 : l.length ≤ 1024
        · have d1 : decide ((1024 : Int) < (l.length : Int)) = false := decide_eq_false (by omega)
          have d1n : decide (1024 < l.length) = false := decide_eq_false (by omega)
          have d1p : ¬ (1024 : Int) < (l.length : Int) := by omega
          have HM2 : Hid (MM = (rowM l (l.length - 0) 0 && decide (la = lastV l) && decide (re = relV l))) := by show _ = _; rw [HM.out, HE.out, decide_eq_true h1]; simp
          obtain ⟨b, o, hao, hx1, hx2⟩ := (HS.out).at1 (k := 0) (by omega)
          clear hx1 hx2
          cases hao
          have HNZ := Lib.hid h0
          have HLE := Lib.hid h1
          clear h0 h1 HM HE HG HA
          go_wp2
          clear x0 x1 x2 x3 x4 xl
          clear d1 d1n d1p e0 e0n
          go_loopw [32] (fun i wr => ∃ k : Nat, i = .int .i64 k ∧ k ≤ l.length ∧ Hid (Box wr w.heap.size [.string mg, .string ma, .slice (some ⟨b, o, none⟩) l.length c, .string la, .string re]) ∧ Hid (Below w.heap.size w wr) ∧ Hid (MM = (rowM l (l.length - k) k && decide (la = lastV l) && decide (re = relV l)))) (fun i _ => l.length - (intOf i).toNat)
          case atStart => exact ⟨0, rfl, Nat.zero_le _, HX2, HB2, HM2⟩
          case round =>
            clear HX2 HB2 HM2
            obtain ⟨k, rfl, hk, HX, HB, HM⟩ := hrel
            by_cases hlt : k < l.length
            · have hSr := HS.out.below HB.out
              obtain ⟨b', o', hao, hbl, hc⟩ := hSr.at1 hlt
              cases hao
              have HSr := Lib.hid hSr
              clear hSr
              have HSTEP := Lib.hid (rowM_step hlt)
              have HV := Lib.hid (HSMALL.out l[k] (List.getElem_mem hlt))
              have d1 : (k : Int) < (l.length : Int) := by omega
              have wk : IntKind.i64.wrap ((k : Int) + 1) = (k : Int) + 1 := IntWalk.i64_in _ (by have := HLN.out; omega)
              have HST : Hid (stepM l k l[k] = (verMay l[k] && !memB (l.take k) l[k] && !(decide (0 < k) && decide (0 < cmpSV (l.getD (k - 1) ⟨#[]⟩) l[k])))) := rfl
              generalize l[k] = x at *
              generalize stepM l k x = st at *
              rw [show rowM l (l.length - k) k = _ from HSTEP.out] at HM
              have x0 := HX.out.cell 0 _ rfl
              have x1 := HX.out.cell 1 _ rfl
              have x2 := HX.out.cell 2 _ rfl
              have x3 := HX.out.cell 3 _ rfl
              have x4 := HX.out.cell 4 _ rfl
              have xl := HX.out.lt
              go_wp2_with fail
              refine (ver_any x _ (by have := HV.out; omega)).mono ?_
              rintro e w3 ⟨rfl, hb3⟩
              have HX3 := Lib.hid (HX.out.below hb3 HX.out.lt)
              have HB3 := Lib.hid (HB.out.trans (hb3.mono HB.out.size))
              have HSr3 := Lib.hid (HSr.out.below hb3)
              clear x0 x1 x2 x3 x4 xl
              clear hb3 HX HB HSr hc hbl HSTEP
              cases hq : verMay x with
              | false =>
                rw [hq] at HST
                clear hq
                have HMF : Hid (MM = false) := by show _ = _; rw [HM.out, HST.out]; simp
                clear HM HST
                go_wp2
                go_ret
                exact ⟨by rw [HMF.out]; rfl, HB3.out⟩
              | true =>
                rw [hq] at HST
                clear hq
                have x0 := HX3.out.cell 0 _ rfl
                have x1 := HX3.out.cell 1 _ rfl
                have x2 := HX3.out.cell 2 _ rfl
                have x3 := HX3.out.cell 3 _ rfl
                have x4 := HX3.out.cell 4 _ rfl
                have xl := HX3.out.lt
                have pk1 : (0 : Int) ≤ (k : Int) := by omega
                have pk2 : (k : Int) ≤ (l.length : Int) := by omega
                have pk3 : (l.length : Int) ≤ (c : Int) := by obtain ⟨_, _, e1, e2, _⟩ := HS.out; cases e1; omega
                have HCO := Lib.hid (containsV_any x HSr3.out hk HLN.out c)
                go_wp2_with fail
                refine HCO.out.mono ?_
                rintro e w4 ⟨rfl, rfl⟩
                cases hq : memB (l.take k) x with
                | true =>
                  rw [hq] at HST
                  clear hq
                  have HMF : Hid (MM = false) := by show _ = _; rw [HM.out, HST.out]; simp
                  clear HM HST HCO
                  go_wp2
                  go_ret
                  exact ⟨by rw [HMF.out]; rfl, HB3.out⟩
                | false =>
                  rw [hq] at HST
                  clear hq HCO pk1 pk2 pk3
                  cases k with
                  | zero =>
                    have HM2 : Hid (MM = (rowM l (l.length - (0 + 1)) (0 + 1) && decide (la = lastV l) && decide (re = relV l))) := by show _ = _; rw [HM.out, HST.out]; simp
                    clear HM HST
                    go_wp2
                    go_roundw
                    case rel => exact ⟨1, rfl, by omega, HX3, HB3, HM2⟩
                    case measure => simp [intOf]; omega
                  | succ kp =>
                    have hkp : kp < l.length := by omega
                    obtain ⟨b', o', hao, hbl, hc⟩ := HSr3.out.at1 hkp
                    cases hao
                    have HV2 := Lib.hid (HSMALL.out l[kp] (List.getElem_mem hkp))
                    have HGD : Hid (l.getD (kp + 1 - 1) ⟨#[]⟩ = l[kp]) := by show _ = _; rw [Nat.add_sub_cancel, List.getD_eq_getElem?_getD, List.getElem?_eq_getElem hkp]; rfl
                    have pg1 : decide ((0 : Int) < (kp : Int) + 1) = true := decide_eq_true (by omega)
                    have pg2 : (0 : Int) < (kp : Int) + 1 := by omega
                    have pg3 : IntKind.i64.wrap ((kp : Int) + 1 - 1) = (kp : Int) := by rw [show (kp : Int) + 1 - 1 = (kp : Int) by omega]; exact IntWalk.i64_in _ (by have := HLN.out; omega)
                    have pg4 : IntKind.i64.wrap (kp : Int) = (kp : Int) := IntWalk.i64_in _ (by have := HLN.out; omega)
                    have pg5 : (kp : Int) < (l.length : Int) := by omega
                    have wk2 : IntKind.i64.wrap ((kp : Int) + 1 + 1) = (kp : Int) + 1 + 1 := IntWalk.i64_in _ (by have := HLN.out; omega)
                    have pg6 : decide (0 < kp + 1) = true := decide_eq_true (by omega)
                    rw [show l.getD (kp + 1 - 1) ⟨#[]⟩ = _ from HGD.out] at HST
                    clear HGD
                    generalize l[kp] = y at *
                    have HCMP : Hid (Calls Tryd.prog 34 #[.string y, .string x] w3 fun e w' => e = .returned (.int .i64 (cmpSV y x)) ∧ Below w3.heap.size w3 w') := compareV_any y x w3 HV2.out HV.out
                    generalize cmpSV y x = cv at *
                    go_wp2_with fail
                    refine HCMP.out.mono ?_
                    rintro e w5 ⟨rfl, hb5⟩
                    have HX5 := Lib.hid (HX3.out.below hb5 HX3.out.lt)
                    have HB5 := Lib.hid (HB3.out.trans (hb5.mono HB3.out.size))
                    clear hb5 HX3 HB3 HSr3 hc hbl HCMP pg3 pg4 pg5
                    by_cases hcv : 0 < cv
                    · have c1 : decide (0 < cv) = true := decide_eq_true hcv
                      have HMF : Hid (MM = false) := by show _ = _; rw [HM.out, HST.out, c1]; simp
                      clear HM HST
                      go_wp2
                      go_ret
                      exact ⟨by rw [HMF.out]; rfl, HB5.out⟩
                    · have c1 : decide (0 < cv) = false := decide_eq_false hcv
                      have HM2 : Hid (MM = (rowM l (l.length - (kp + 1 + 1)) (kp + 1 + 1) && decide (la = lastV l) && decide (re = relV l))) := by show _ = _; rw [HM.out, HST.out, c1]; simp
                      clear HM HST
                      go_wp2
                      go_roundw
                      case rel => exact ⟨kp + 1 + 1, by first | rfl | go_num, hlt, HX5, HB5, HM2⟩
                      case measure => simp [intOf]; omega
            · obtain rfl : k = l.length := by omega
              have d1 : ¬ (l.length : Int) < (l.length : Int) := by omega
              have HM2 : Hid (MM = (decide (la = lastV l) && decide (re = relV l))) := by show _ = _; rw [HM.out, rowM_end]; simp
              clear HM hlt hk
              obtain ⟨n, hn⟩ : ∃ n, l.length = n + 1 := ⟨l.length - 1, by have := HNZ.out; omega⟩
              have hat := lastV_at hn
              have hSr := HS.out.below HB.out
              obtain ⟨b', o', hao, hbl, hc⟩ := hSr.at1 (k := n) (by omega)
              rw [(List.getElem?_eq_some_iff.1 hat).2] at hc
              cases hao
              have HREL : Hid (∀ W, Below wr.heap.size wr W → Calls Tryd.prog 35 #[.slice (some ⟨b, o, none⟩) l.length c] W fun e w' => e = .returned (.string (relV l)) ∧ Below W.heap.size W w') := fun W hb => releaseV_any (hSr.below hb) HLN.out HSMALL.out
              clear hSr hat
              generalize lastV l = lv at *
              generalize relV l = rv at *
              generalize hq1 : decide (la = lv) = q1 at *
              generalize hq2 : decide (re = rv) = q2 at *
              rw [hn] at HREL HX ⊢
              have w1 : IntKind.i64.wrap (n : Int) = (n : Int) := IntWalk.i64_in _ (by have := HLN.out; omega)
              have lt1 : (n : Int) < (n : Int) + 1 := by omega
              have HNN := Lib.hid hn
              clear hn d1
              have x0 := HX.out.cell 0 _ rfl
              have x1 := HX.out.cell 1 _ rfl
              have x2 := HX.out.cell 2 _ rfl
              have x3 := HX.out.cell 3 _ rfl
              have x4 := HX.out.cell 4 _ rfl
              have xl := HX.out.lt
              have hLL := @Later.cells wr
              have HRR : Hid (∀ z : Later wr, Calls Tryd.prog 35 #[.slice (some ⟨b, o, none⟩) (n + 1) c] z.at_ fun e w'' => e = .returned (.string rv) ∧ ∃ u : Later wr, w'' = u.at_) := fun z => Later.call (HREL.out _ z.below)
              clear HREL
              cases q1
              · go_wp2_with fail
                refine region_later (by kernel_rfl) (by kernel_rfl) ?_
                repeat (go_big_quiet_step (fail))
                refine wpQuiet_nil ?_
                rintro _ ⟨nx, rfl⟩
                have HBn := Lib.hid (HB.out.trans (nx.below.mono HB.out.size))
                clear hLL x0 x1 x2 x3 x4 xl hc hbl HRR
                generalize nx.at_ = wn at *
                go_wp2
                go_ret
                exact ⟨by rw [HM2.out]; rfl, HBn.out⟩
              · go_wp2_with fail
                refine region_later (by kernel_rfl) (by kernel_rfl) ?_
                repeat (go_big_quiet_step ((go_at_call 35; with_reducible exact HRR.out _)))
                refine wpQuiet_nil ?_
                rintro _ ⟨nx, rfl⟩
                have HBn := Lib.hid (HB.out.trans (nx.below.mono HB.out.size))
                clear hLL x0 x1 x2 x3 x4 xl hc hbl HRR
                generalize nx.at_ = wn at *
                go_wp2
                go_ret
                exact ⟨by rw [HM2.out]; rfl, HBn.out⟩
        · have d1 : decide ((1024 : Int) < (l.length : Int)) = true := decide_eq_true (by omega)
          have d1n : decide (1024 < l.length) = true := decide_eq_true (by omega)
          have d1p : (1024 : Int) < (l.length : Int) := by omega
          have HMF : Hid (MM = false) := by show _ = _; rw [HM.out, decide_eq_false h1]; simp
          clear h0 h1
          go_wp2
          go_ret
          exact ⟨by rw [HMF.out]; rfl, HB2.out⟩

end Go.Proofs.YtecffghcpknmjaaDoor

/- The walk of the document's May of a Meta; the conditions stand in the theorem. -/

namespace Go.Proofs.YtecffghcpknmjaaDoor
open Go Go.RowKit

theorem memB_snoc (l : List S) (y x : S) : memB (l ++ [y]) x = (memB l x || decide (y = x)) := by unfold memB; rw [List.any_append]; simp
/-- The document's Compare answers the order (V12). -/
def RefCmpOk : Prop := ∀ (a b : S) (W : World), a.size ≤ 900000 → b.size ≤ 900000 → Calls Tryd.prog 18 #[.string a, .string b] W fun e w' => e = .returned (.int .i64 (cmpSV a b)) ∧ Below W.heap.size W w'
theorem refCmpOk_of (HPT : RefPartsOk) : RefCmpOk := fun a b W ha hb => refCompareV_of HPT a b W ha hb
attribute [local go_sem ↓] str_beqV in
set_option maxRecDepth 100000 in
set_option maxHeartbeats 4000000 in
theorem refMetaMay_of (HPT : RefPartsOk) (m : MetaD) (v : Value) (w : World) (h : SliceOf 1 strC w v m.vers) (hsm : MetaSm m) :
    Calls Tryd.prog 16 #[metaAg m v] w fun e w' => e = .returned (.bool (mayM m)) ∧ Below w.heap.size w w' := by
  have HCMP0 := Lib.hid (refCmpOk_of HPT)
  have HOF0 := Lib.hid (fun (d : Id) (l : List S) (v : Value) (w : World) h1 h2 h3 => refMetaOf_of HPT d l v w h1 h2 h3)
  clear HPT
  have HG := Lib.hid hsm.g
  have HA := Lib.hid hsm.a
  have HLN := Lib.hid hsm.n
  have HSMALL := Lib.hid hsm.v
  have HS := Lib.hid h
  obtain ⟨ao, c, rfl⟩ := h.shape
  have HM : Hid (mayM m = (isIdB m.id.group && isIdB m.id.artifact && !m.vers.isEmpty && decide (m.vers.length ≤ 1024) && rowM m.vers m.vers.length 0 && decide (m.latest = lastV m.vers) && decide (m.rel = relV m.vers))) := rfl
  clear h hsm
  obtain ⟨⟨mg, ma⟩, l, la, re⟩ := m
  simp only at HG HA HLN HSMALL HS HM
  obtain ⟨MM, hMM⟩ : ∃ x, mayM ⟨⟨mg, ma⟩, l, la, re⟩ = x := ⟨_, rfl⟩
  rw [hMM] at HM ⊢
  clear hMM
  unfold metaAg metaC
  go_enter Tryd.func16, Tryd.ntmps16
  go_upto_region 1 with fail
  refine wp_world ?_
  intro W hW
  have x1 : Box W w.heap.size [.string mg, .string ma, .slice ao l.length c, .string la, .string re] := by rw [hW]; exact Box.new w [.string mg, .string ma, .slice ao l.length c, .string la, .string re] _ _ rfl
  have hb : Below w.heap.size w W := by rw [hW]; exact (Below.refl _ w).alloc (Nat.le_refl _) _
  clear hW
  have HX := Lib.hid x1
  have HB := Lib.hid hb
  clear x1 hb
  have x0 := HX.out.cell 0 _ rfl
  have x1 := HX.out.cell 1 _ rfl
  have x2 := HX.out.cell 2 _ rfl
  have x3 := HX.out.cell 3 _ rfl
  have x4 := HX.out.cell 4 _ rfl
  have xl := HX.out.lt
  by_cases h0 : l.length = 0
  · have e0 : ((l.length : Int) == 0) = true := by rw [beq_iff_eq]; omega
    have e0n : (l.length == 0) = true := by rw [beq_iff_eq]; exact h0
    have HMF : Hid (MM = false) := by show _ = _; rw [HM.out, List.eq_nil_of_length_eq_zero h0]; simp
    clear h0
    go_wp2
    go_ret
    exact ⟨by rw [HMF.out]; rfl, HB.out⟩
  · have e0 : ((l.length : Int) == 0) = false := by rw [beq_eq_false_iff_ne]; omega
    have e0n : (l.length == 0) = false := by rw [beq_eq_false_iff_ne]; exact h0
    have HE : Hid (l.isEmpty = false) := by show _ = _; rw [List.isEmpty_eq_false_iff]; intro e; rw [e] at h0; exact h0 rfl
    by_cases h1 : l.length ≤ 1024
    · have d1 : decide ((1024 : Int) < (l.length : Int)) = false := decide_eq_false (by omega)
      have d1n : decide (1024 < l.length) = false := decide_eq_false (by omega)
      have d1p : ¬ (1024 : Int) < (l.length : Int) := by omega
      obtain ⟨b, o, hao, hx1, hx2⟩ := (HS.out).at1 (k := 0) (by omega)
      clear hx1 hx2
      cases hao
      have HNZ := Lib.hid h0
      have HM1 : Hid (MM = (isIdB mg && isIdB ma && (rowM l (l.length - 0) 0 && decide (la = lastV l) && decide (re = relV l)))) := by show _ = _; rw [HM.out, HE.out, decide_eq_true h1]; simp [Bool.and_assoc]
      clear h0 h1 HM HE
      go_wp2_with fail
      refine (refIsId_any mg _ HG.out).mono ?_
      rintro e wq ⟨rfl, rfl⟩
      cases hg : isIdB mg with
      | false =>
        rw [hg] at HM1
        clear hg
        go_wp2
        go_ret
        exact ⟨by rw [HM1.out]; simp, HB.out⟩
      | true =>
        rw [hg] at HM1
        clear hg
        go_wp2_with fail
        refine (refIsId_any ma _ HA.out).mono ?_
        rintro e wq ⟨rfl, rfl⟩
        cases hg : isIdB ma with
        | false =>
          rw [hg] at HM1
          clear hg
          go_wp2
          go_ret
          exact ⟨by rw [HM1.out]; simp, HB.out⟩
        | true =>
          rw [hg] at HM1
          clear hg
          have HM2 : Hid (MM = (rowM l (l.length - 0) 0 && decide (la = lastV l) && decide (re = relV l))) := by show _ = _; rw [HM1.out]; simp
          clear HM1 HG HA
          go_wp2
          clear x0 x1 x2 x3 x4 xl
          clear d1 d1n d1p e0 e0n
          go_loopw [34] (fun i wr => ∃ k : Nat, i = .int .i64 k ∧ k ≤ l.length ∧ Hid (Box wr w.heap.size [.string mg, .string ma, .slice (some ⟨b, o, none⟩) l.length c, .string la, .string re]) ∧ Hid (Below w.heap.size w wr) ∧ Hid (MM = (rowM l (l.length - k) k && decide (la = lastV l) && decide (re = relV l)))) (fun i _ => l.length - (intOf i).toNat)
          case atStart => exact ⟨0, rfl, Nat.zero_le _, HX, HB, HM2⟩
          case round =>
            clear HX HB HM2
            obtain ⟨k, rfl, hk, HX, HB, HM⟩ := hrel
            by_cases hlt : k < l.length
            · have hSr := HS.out.below HB.out
              obtain ⟨b', o', hao, hbl, hc⟩ := hSr.at1 hlt
              cases hao
              have HSr := Lib.hid hSr
              clear hSr
              have HSTEP := Lib.hid (rowM_step hlt)
              have HV := Lib.hid (HSMALL.out l[k] (List.getElem_mem hlt))
              have d1 : (k : Int) < (l.length : Int) := by omega
              have wk : IntKind.i64.wrap ((k : Int) + 1) = (k : Int) + 1 := IntWalk.i64_in _ (by have := HLN.out; omega)
              have HST : Hid (stepM l k l[k] = (verMay l[k] && !memB (l.take k) l[k] && !(decide (0 < k) && decide (0 < cmpSV (l.getD (k - 1) ⟨#[]⟩) l[k])))) := rfl
              generalize l[k] = x at *
              generalize stepM l k x = st at *
              rw [show rowM l (l.length - k) k = _ from HSTEP.out] at HM
              have hSr0 := HSr.out
              obtain ⟨qc, hqc⟩ : ∃ q, (!verMay x || (decide (0 < k) && decide (0 < cmpSV (l.getD (k - 1) ⟨#[]⟩) x))) = q := ⟨_, rfl⟩
              have HQC := Lib.hid hqc
              clear hqc HSTEP
              go_upto_region 7 with fail
              go_cut [56] from 39 to 55 (fun z wx => z = .bool qc ∧ Hid (Box wx w.heap.size [.string mg, .string ma, .slice (some ⟨b, o, none⟩) l.length c, .string la, .string re]) ∧ Hid (Below w.heap.size w wx))
              case first =>
                clear hSr0 hc hbl
                have HV2 := Lib.hid (refVer_any x wr (by have := HV.out; omega))
                have x0 := HX.out.cell 0 _ rfl
                have x1 := HX.out.cell 1 _ rfl
                have x2 := HX.out.cell 2 _ rfl
                have x3 := HX.out.cell 3 _ rfl
                have x4 := HX.out.cell 4 _ rfl
                have xl := HX.out.lt
                go_wp2_with fail
                refine HV2.out.mono ?_
                rintro e wq ⟨rfl, rfl⟩
                cases hq : verMay x with
                | false =>
                  have hz : qc = true := by rw [← show _ = qc from HQC.out, hq]; rfl
                  subst hz
                  clear HQC HST
                  go_wp2
                  go_meet
                  case rel => exact ⟨rfl, HX, HB⟩
                | true =>
                  cases k with
                  | zero =>
                    have hz : qc = false := by rw [← show _ = qc from HQC.out, hq]; rfl
                    subst hz
                    clear HQC HST
                    go_wp2
                    go_meet
                    case rel => exact ⟨rfl, HX, HB⟩
                  | succ kp =>
                    have hkp : kp < l.length := by omega
                    obtain ⟨b', o', hao, hbl, hc⟩ := HSr.out.at1 hkp
                    cases hao
                    have HV3 := Lib.hid (HSMALL.out l[kp] (List.getElem_mem hkp))
                    have hgd : l.getD (kp + 1 - 1) ⟨#[]⟩ = l[kp] := by rw [Nat.add_sub_cancel, List.getD_eq_getElem?_getD, List.getElem?_eq_getElem hkp]; rfl
                    have hz : decide (0 < cmpSV l[kp] x) = qc := by rw [← show _ = qc from HQC.out, hq, hgd]; simp
                    have pg1 : decide ((0 : Int) < (kp : Int) + 1) = true := decide_eq_true (by omega)
                    have pg2 : (0 : Int) < (kp : Int) + 1 := by omega
                    have pg3 : IntKind.i64.wrap ((kp : Int) + 1 - 1) = (kp : Int) := by rw [show (kp : Int) + 1 - 1 = (kp : Int) by omega]; exact IntWalk.i64_in _ (by have := HLN.out; omega)
                    have pg4 : IntKind.i64.wrap (kp : Int) = (kp : Int) := IntWalk.i64_in _ (by have := HLN.out; omega)
                    have pg5 : (kp : Int) < (l.length : Int) := by omega
                    have pg6 : decide (0 < kp + 1) = true := decide_eq_true (by omega)
                    generalize l[kp] = y at *
                    have HCMP := Lib.hid (HCMP0.out y x wr HV3.out HV.out)
                    generalize cmpSV y x = cv at *
                    clear hgd HQC HST hq
                    go_wp2_with fail
                    refine HCMP.out.mono ?_
                    rintro e w5 ⟨rfl, hb5⟩
                    have HX5 := Lib.hid (HX.out.below hb5 HX.out.lt)
                    have HB5 := Lib.hid (HB.out.trans (hb5.mono HB.out.size))
                    clear hb5 HX HB
                    go_wp2
                    go_meet
                    case rel => exact ⟨by first | rfl | rw [hz], HX5, HB5⟩
              case rest =>
                obtain ⟨rfl, HX, HB⟩ := hcut
                clear hc hbl hSr0 HSr
                cases qc with
                | true =>
                  have HMF : Hid (MM = false) := by
                    show _ = _
                    have h1 := HQC.out
                    rw [HM.out, HST.out]
                    change _ = _ at h1
                    generalize (decide (0 < k) && decide (0 < cmpSV (l.getD (k - 1) ⟨#[]⟩) x)) = A at h1 ⊢
                    cases hv : verMay x <;> cases A <;> simp_all
                  clear HM HST HQC
                  go_wp2
                  go_ret
                  exact ⟨by rw [HMF.out]; rfl, HB.out⟩
                | false =>
                  have HST2 : Hid (st = !memB (l.take k) x) := by
                    show _ = _
                    have h1 := HQC.out
                    rw [HST.out]
                    change _ = _ at h1
                    generalize (decide (0 < k) && decide (0 < cmpSV (l.getD (k - 1) ⟨#[]⟩) x)) = A at h1 ⊢
                    cases hv : verMay x <;> cases A <;> simp_all
                  have HSW := Lib.hid (HS.out.below HB.out)
                  clear HST HQC
                  have x0 := HX.out.cell 0 _ rfl
                  have x1 := HX.out.cell 1 _ rfl
                  have x2 := HX.out.cell 2 _ rfl
                  have x3 := HX.out.cell 3 _ rfl
                  have x4 := HX.out.cell 4 _ rfl
                  have xl := HX.out.lt
                  have pk1 : (0 : Int) ≤ (k : Int) := by omega
                  have pk2 : (k : Int) ≤ (l.length : Int) := by omega
                  have pk3 : (l.length : Int) ≤ (c : Int) := by obtain ⟨_, _, e1, e2, _⟩ := HS.out; cases e1; omega
                  obtain ⟨W2, hW2⟩ : ∃ W', W' = wc := ⟨_, rfl⟩
                  rw [← hW2] at HX HB HSW
                  subst hW2
                  go_wp2
                  clear pk1 pk2 pk3
                  go_loopw [62] (fun i wr => ∃ j : Nat, i = .int .i64 j ∧ j ≤ k ∧ W2 = wr ∧ Hid (memB (l.take j) x = false)) (fun i _ => k - (intOf i).toNat)
                  case atStart => exact ⟨0, rfl, Nat.zero_le _, rfl, rfl⟩
                  case round =>
                    obtain ⟨j, rfl, hj, rfl, HMB⟩ := hrel
                    by_cases hjk : j < k
                    · have hjl : j < l.length := by omega
                      obtain ⟨b', o', hao, hbl, hc⟩ := HSW.out.at1 hjl
                      cases hao
                      have hsn := memB_snoc (l.take j) l[j] x
                      rw [← take_snoc hjl, show memB (l.take j) x = false from HMB.out, Bool.false_or] at hsn
                      have HSNO := Lib.hid hsn
                      have HIN : Hid (l[j] ∈ l.take k) := by show _ ∈ _; rw [List.mem_take_iff_getElem]; exact ⟨j, by omega, rfl⟩
                      clear hsn
                      have e1 : (j : Int) < (k : Int) := by omega
                      have wj : IntKind.i64.wrap ((j : Int) + 1) = (j : Int) + 1 := IntWalk.i64_in _ (by have := HLN.out; omega)
                      generalize l[j] = y at *
                      generalize hyx : decide (y = x) = q at *
                      cases q with
                      | true =>
                        have HMF : Hid (MM = false) := by
                          show _ = _
                          have := of_decide_eq_true hyx
                          rw [HM.out, HST2.out, memB_iff.2 (by rw [← this]; exact HIN.out)]; simp
                        clear HM HST2 HSNO HIN HMB
                        go_wp2
                        go_ret
                        exact ⟨by rw [HMF.out]; rfl, HB.out⟩
                      | false =>
                        clear HIN HMB
                        go_wp2
                        go_roundw
                        case rel => exact ⟨j + 1, by first | rfl | go_num, hjk, (by trivial), HSNO⟩
                        case measure => simp [intOf]; omega
                    · obtain rfl : j = k := by omega
                      have HM2 : Hid (MM = (rowM l (l.length - (j + 1)) (j + 1) && decide (la = lastV l) && decide (re = relV l))) := by show _ = _; rw [HM.out, HST2.out, show memB (l.take j) x = false from HMB.out]; simp
                      have e1 : ¬ (j : Int) < (j : Int) := by omega
                      clear HM HST2 HMB
                      go_wp2
                      go_roundw
                      case rel => exact ⟨j + 1, by first | rfl | go_num, hlt, HX, HB, HM2⟩
                      case measure => simp [intOf]; omega
            · obtain rfl : k = l.length := by omega
              have d1 : ¬ (l.length : Int) < (l.length : Int) := by omega
              have HM2 : Hid (MM = (decide (la = lastV l) && decide (re = relV l))) := by show _ = _; rw [HM.out, rowM_end]; simp
              have HM3 : Hid (decide ((⟨⟨mg, ma⟩, l, la, re⟩ : MetaD) = ⟨⟨mg, ma⟩, l, lastV l, relV l⟩) = MM) := by show _ = _; rw [metaD_eq, HM2.out]; simp
              clear HM hlt hk HM2
              have hSr := HS.out.below HB.out
              have HO : Hid (∀ z : Later wr, Calls Tryd.prog 12 #[.agg #[.string mg, .string ma], .slice (some ⟨b, o, none⟩) l.length c] z.at_ fun e w'' => e = .returned (.agg #[.string mg, .string ma, .slice (some ⟨b, o, none⟩) l.length c, .string (lastV l), .string (relV l)]) ∧ ∃ u : Later wr, w'' = u.at_) := fun z => Later.call (HOF0.out ⟨mg, ma⟩ l _ _ (hSr.below z.below) HLN.out HSMALL.out)
              have HSA : Hid (∀ z : Later wr, Calls Tryd.prog 10 #[.agg #[.string mg, .string ma, .slice (some ⟨b, o, none⟩) l.length c, .string la, .string re], .agg #[.string mg, .string ma, .slice (some ⟨b, o, none⟩) l.length c, .string (lastV l), .string (relV l)]] z.at_ fun e w'' => e = .returned (.bool MM) ∧ ∃ u : Later wr, w'' = u.at_) := fun z => Later.call (by
                have := refMetaSame_any ⟨⟨mg, ma⟩, l, la, re⟩ ⟨⟨mg, ma⟩, l, lastV l, relV l⟩ (.slice (some ⟨b, o, none⟩) l.length c) (.slice (some ⟨b, o, none⟩) l.length c) z.at_ (hSr.below z.below) (hSr.below z.below) HLN.out
                rw [HM3.out] at this
                exact this)
              clear HM3 hSr HOF0 HCMP0
              generalize lastV l = lv at *
              generalize relV l = rv at *
              have x0 := HX.out.cell 0 _ rfl
              have x1 := HX.out.cell 1 _ rfl
              have x2 := HX.out.cell 2 _ rfl
              have x3 := HX.out.cell 3 _ rfl
              have x4 := HX.out.cell 4 _ rfl
              have xl := HX.out.lt
              have hLL := @Later.cells wr
              go_wp2_with fail
              refine region_later (by kernel_rfl) (by kernel_rfl) ?_
              repeat (go_big_quiet_step ((first | (go_at_call 12; with_reducible exact HO.out _) | (go_at_call 10; with_reducible exact HSA.out _))))
              refine wpQuiet_nil ?_
              rintro _ ⟨nx, rfl⟩
              have HBn := Lib.hid (HB.out.trans (nx.below.mono HB.out.size))
              clear hLL x0 x1 x2 x3 x4 xl HO HSA
              generalize nx.at_ = wn at *
              go_wp2
              go_ret
              exact ⟨rfl, HBn.out⟩
    · have d1 : decide ((1024 : Int) < (l.length : Int)) = true := decide_eq_true (by omega)
      have d1n : decide (1024 < l.length) = true := decide_eq_true (by omega)
      have d1p : (1024 : Int) < (l.length : Int) := by omega
      have HMF : Hid (MM = false) := by show _ = _; rw [HM.out, decide_eq_false h1]; simp
      clear h0 h1
      go_wp2
      go_ret
      exact ⟨by rw [HMF.out]; rfl, HB.out⟩

end Go.Proofs.YtecffghcpknmjaaDoor

/- Maps whose keys are structs: what lookup, mapUpdate and the frame of an update are, for any program, key type and values; no program in sight. -/

namespace Go.Proofs.YtecffghcpknmjaaDoor
open Go Go.RowKit

structure MEnt (K : Type) where
  key : K
  val : Value
  born : Nat
def MEnt.ent {K : Type} (kc : K → Value) (e : MEnt K) : MapEntry := { key := kc e.key, val := e.val, born := e.born }
/-- Block m holds a map of these entries. -/
def MMap {K : Type} (kc : K → Value) (w : World) (m : Nat) (L : List (MEnt K)) (c : Nat) : Prop := w.heap[m]? = some (.map (L.map (MEnt.ent kc)).toArray c)
/-- What the keys of a map must do: a struct type, its equality, its check. -/
structure MKey {K : Type} [DecidableEq K] (P : Program) (tk : TypeId) (kc : K → Value) : Prop where
  str : ∃ fs, P.underlying tk = some (.struct fs)
  eq : ∀ (a b : K) (w : World), (Op.equal tk (kc a) (kc b)).run P w = .ok (decide (a = b)) w
  chk : ∀ (b : Bool) (k : K) (w : World), (Instr.checkKey b 10000 tk (kc k)).run P w = .ok () w
def mIdx {K : Type} [DecidableEq K] (L : List (MEnt K)) (k : K) : Option Nat := L.findIdx? (fun e => decide (k = e.key))
def mGet {K : Type} [DecidableEq K] (L : List (MEnt K)) (k : K) : Option Value := (L.find? (fun e => decide (k = e.key))).map (·.val)
theorem mGet_idx {K : Type} [DecidableEq K] (L : List (MEnt K)) (k : K) : ((mIdx L k).bind fun j => (L[j]?).map fun e => e.val) = mGet L k := by
  unfold mIdx mGet
  induction L with
  | nil => rfl
  | cons e L ih =>
    rw [List.findIdx?_cons, List.find?_cons]
    cases decide (k = e.key) with
    | true => simp
    | false =>
      rw [← ih]
      cases L.findIdx? (fun e => decide (k = e.key)) <;> simp
theorem mIdx_none {K : Type} [DecidableEq K] {L : List (MEnt K)} {k : K} : mIdx L k = none ↔ mGet L k = none := by
  unfold mIdx mGet
  rw [Option.map_eq_none_iff, List.findIdx?_eq_none_iff, List.find?_eq_none]
  simp
theorem run_findAskingM {K : Type} [DecidableEq K] {P : Program} {tk : TypeId} {kc : K → Value} (hk : MKey P tk kc) (k : K) (w : World) : ∀ (L : List (MEnt K)) (i : Nat), (Instr.findAsking tk (kc k) (L.map (MEnt.ent kc)) i).run P w =
    .ok ((mIdx L k).bind fun j => (L[j]?).map fun e => (i + j, e.val)) w
  | [], i => by simp [Instr.findAsking, mIdx]
  | e :: L, i => by
    simp only [List.map_cons, Instr.findAsking, Sem.run_bind, MEnt.ent, hk.eq, Result.andThen_ok, mIdx, List.findIdx?_cons]
    by_cases h : k = e.key
    · simp [h]
    · simp only [h, decide_false, Bool.false_eq_true, if_false]
      have ih := run_findAskingM hk k w L (i + 1)
      unfold mIdx at ih
      rw [ih]
      congr 1
      cases L.findIdx? (fun e => decide (k = e.key)) <;> simp [Nat.add_assoc, Nat.add_comm 1]
theorem run_findKeyM {K : Type} [DecidableEq K] {P : Program} {tk : TypeId} {kc : K → Value} (hk : MKey P tk kc) (k : K) (w : World) (L : List (MEnt K)) : (Instr.findKey tk (kc k) (L.map (MEnt.ent kc))).run P w =
    .ok ((mIdx L k).bind fun j => (L[j]?).map fun e => (j, e.val)) w := by
  obtain ⟨fs, hu⟩ := hk.str
  simp only [Instr.findKey, Sem.run_bind, run_underlying hu, Result.andThen_ok]
  cases L with
  | nil => simp [Instr.findNow, mIdx]
  | cons e L =>
    have h := run_findAskingM hk k w (e :: L) 0
    simp only [Nat.zero_add] at h
    simp only [List.map_cons, Instr.findNow, MEnt.ent, Instr.sameNow] at h ⊢
    exact h
theorem run_lookupM {K : Type} [DecidableEq K] {P : Program} {tk te tm : TypeId} {kc : K → Value} (hk : MKey P tk kc) (ht : P.underlying tm = some (.map tk te)) {z : Value} (hz : ∀ w, (zeroValue te).run P w = .ok z w) {w : World} {m : Nat} {L : List (MEnt K)} {c : Nat} (k : K) (h : MMap kc w m L c) :
    (Instr.lookup tm (.map (some m)) (kc k) false).run P w = .ok ((mGet L k).getD z) w := by
  simp only [Instr.lookup, Sem.run_bind, run_underlying ht, Result.andThen_ok]
  have hg : (getObj m).run P w = .ok (.map (L.map (MEnt.ent kc)).toArray c) w := by simp [getObj, Sem.run, show w.heap[m]? = _ from h]
  simp only [hg, Sem.run_bind, Result.andThen_ok, Sem.run_pure, hk.chk, run_findKeyM hk]
  rw [← mGet_idx]
  cases hj : mIdx L k with
  | none => simp [hz]
  | some j =>
    have hlt : j < L.length := by
      unfold mIdx at hj
      have := List.findIdx?_eq_some_iff_findIdx_eq.1 hj; omega
    simp [hlt]
def mSet {K : Type} (kc : K → Value) (w : World) (m : Nat) (L : List (MEnt K)) (c : Nat) : World := { w with heap := w.heap.setIfInBounds m (.map (L.map (MEnt.ent kc)).toArray c) }
theorem run_updateM_new {K : Type} [DecidableEq K] {P : Program} {tk te tm : TypeId} {kc : K → Value} (hk : MKey P tk kc) (ht : P.underlying tm = some (.map tk te)) {w : World} {m : Nat} {L : List (MEnt K)} {c : Nat} (k : K) (v : Value) (h : MMap kc w m L c) (hn : mIdx L k = none) :
    (Instr.mapUpdate tm (.map (some m)) (kc k) v).run P w = .ok () (mSet kc w m (L ++ [⟨k, v, c⟩]) (c + 1)) := by
  simp only [Instr.mapUpdate, Sem.run_bind, run_underlying ht, Result.andThen_ok]
  have hg : (getObj m).run P w = .ok (.map (L.map (MEnt.ent kc)).toArray c) w := by simp [getObj, Sem.run, show w.heap[m]? = _ from h]
  have hset : ∀ o, (setObj m o).run P w = .ok () { w with heap := w.heap.setIfInBounds m o } := fun o => by simp [setObj, Sem.run, show w.heap[m]? = _ from h]
  simp only [hg, Sem.run_bind, Result.andThen_ok, hk.chk, run_findKeyM hk, hn]
  simp [hset, mSet, MEnt.ent]
theorem MMap.lt {K : Type} {kc : K → Value} {w : World} {m : Nat} {L : List (MEnt K)} {c : Nat} (h : MMap kc w m L c) : m < w.heap.size := (Array.getElem?_eq_some_iff.1 h).1
theorem mSet_is {K : Type} {kc : K → Value} {w : World} {m : Nat} {L L' : List (MEnt K)} {c c' : Nat} (h : MMap kc w m L c) : MMap kc (mSet kc w m L' c') m L' c' := by
  have := h.lt
  simp [MMap, mSet, this]
theorem mSet_grown {K : Type} {kc : K → Value} (w : World) (m : Nat) (L : List (MEnt K)) (c : Nat) : w.grownBy (mSet kc w m L c) (some m) :=
  ⟨rfl, rfl, rfl, by simp [mSet], fun k _ hne => by
    have : m ≠ k := fun e => hne (by rw [e])
    simp [mSet, this]⟩
theorem MMap.grown {K : Type} {kc : K → Value} {w w' : World} {m : Nat} {L : List (MEnt K)} {c : Nat} {row : Option Nat} (h : MMap kc w m L c) (hg : w.grownBy w' row) (hne : some m ≠ row) : MMap kc w' m L c := (hg.block m h.lt hne).trans h
theorem MMap.below {K : Type} {kc : K → Value} {w w' : World} {m : Nat} {L : List (MEnt K)} {c B : Nat} (h : MMap kc w m L c) (hb : Below B w w') (hm : m < B) : MMap kc w' m L c := (hb.block m hm).trans h

end Go.Proofs.YtecffghcpknmjaaDoor

/- Maps whose keys are structs: an entry written again, what is found behind an update; blocks of which some may turn; no program in sight. -/

namespace Go.Proofs.YtecffghcpknmjaaDoor
open Go Go.RowKit

def mPut {K : Type} [DecidableEq K] (L : List (MEnt K)) (k : K) (v : Value) (c : Nat) : List (MEnt K) := match mIdx L k with
  | some j => L.modify j fun e => { e with val := v }
  | none => L ++ [⟨k, v, c⟩]
def mCnt {K : Type} [DecidableEq K] (L : List (MEnt K)) (k : K) (c : Nat) : Nat := if (mIdx L k).isSome then c else c + 1
theorem mIdx_some {K : Type} [DecidableEq K] {L : List (MEnt K)} {k : K} {j : Nat} (h : mIdx L k = some j) : ∃ hj : j < L.length, L[j].key = k := by
  obtain ⟨hj, hjk, -⟩ := List.findIdx?_eq_some_iff_getElem.1 h
  exact ⟨hj, by simpa using (of_decide_eq_true hjk).symm⟩
theorem run_updateM {K : Type} [DecidableEq K] {P : Program} {tk te tm : TypeId} {kc : K → Value} (hk : MKey P tk kc) (hs : ∀ k, Instr.sameBits 10000 (kc k) (kc k) = true) (ht : P.underlying tm = some (.map tk te)) {w : World} {m : Nat} {L : List (MEnt K)} {c : Nat} (k : K) (v : Value) (h : MMap kc w m L c) :
    (Instr.mapUpdate tm (.map (some m)) (kc k) v).run P w = .ok () (mSet kc w m (mPut L k v c) (mCnt L k c)) := by
  cases hn : mIdx L k with
  | none =>
    have e1 : mPut L k v c = L ++ [⟨k, v, c⟩] := by simp [mPut, hn]
    have e2 : mCnt L k c = c + 1 := by simp [mCnt, hn]
    rw [e1, e2]
    exact run_updateM_new hk ht k v h hn
  | some j =>
    obtain ⟨hj, hkey⟩ := mIdx_some hn
    have e1 : mPut L k v c = L.modify j fun e => { e with val := v } := by simp [mPut, hn]
    have e2 : mCnt L k c = c := by simp [mCnt, hn]
    rw [e1, e2]
    simp only [Instr.mapUpdate, Sem.run_bind, run_underlying ht, Result.andThen_ok]
    have hg : (getObj m).run P w = .ok (.map (L.map (MEnt.ent kc)).toArray c) w := by simp [getObj, Sem.run, show w.heap[m]? = _ from h]
    have hset : ∀ o, (setObj m o).run P w = .ok () { w with heap := w.heap.setIfInBounds m o } := fun o => by simp [setObj, Sem.run, show w.heap[m]? = _ from h]
    simp only [hg, Sem.run_bind, Result.andThen_ok, hk.chk, run_findKeyM hk, hn]
    have hke : Instr.keyThatStays (kc L[j].key) (kc k) = (pure (kc k) : Sem Value) := by
      unfold Instr.keyThatStays
      rw [hkey, if_pos (hs k)]
    have hl : ((L.map (MEnt.ent kc)).modify j fun e => { key := kc k, val := v, born := e.born }) = (L.modify j fun e => { e with val := v }).map (MEnt.ent kc) := by
      apply List.ext_getElem?
      intro i
      simp only [List.getElem?_modify, List.getElem?_map]
      by_cases hi : j = i
      · subst hi
        simp [hj, MEnt.ent, hkey]
      · simp [hi]
    simp [hj, MEnt.ent, hke, hset, mSet]
    congr 2
    simpa [MEnt.ent] using hl
theorem mGet_cons {K : Type} [DecidableEq K] (e : MEnt K) (L : List (MEnt K)) (k : K) : mGet (e :: L) k = if k = e.key then some e.val else mGet L k := by
  unfold mGet
  rw [List.find?_cons]
  by_cases h : k = e.key <;> simp [h]
theorem mGet_append {K : Type} [DecidableEq K] (L M : List (MEnt K)) (k : K) : mGet (L ++ M) k = (mGet L k).or (mGet M k) := by
  induction L with
  | nil => simp [mGet]
  | cons e L ih =>
    rw [List.cons_append, mGet_cons, mGet_cons, ih]
    split <;> simp
theorem mIdx_cons {K : Type} [DecidableEq K] (e : MEnt K) (L : List (MEnt K)) (k : K) : mIdx (e :: L) k = if k = e.key then some 0 else (mIdx L k).map (· + 1) := by
  unfold mIdx
  rw [List.findIdx?_cons]
  by_cases h : k = e.key <;> simp [h]
theorem mGet_put {K : Type} [DecidableEq K] (L : List (MEnt K)) (k : K) (v : Value) (c : Nat) (k' : K) : mGet (mPut L k v c) k' = if k' = k then some v else mGet L k' := by
  cases hn : mIdx L k with
  | none =>
    have e1 : mPut L k v c = L ++ [⟨k, v, c⟩] := by simp [mPut, hn]
    have hg := mIdx_none.1 hn
    rw [e1, mGet_append, mGet_cons]
    by_cases h : k' = k
    · subst h; simp [hg]
    · simp [h, mGet]
  | some j =>
    have e1 : mPut L k v c = L.modify j fun e => { e with val := v } := by simp [mPut, hn]
    rw [e1]
    clear e1
    induction L generalizing j with
    | nil => simp [mIdx] at hn
    | cons e L ih =>
      rw [mIdx_cons] at hn
      by_cases h : k = e.key
      · rw [if_pos h] at hn
        cases hn
        rw [List.modify_cons, if_pos rfl, mGet_cons, mGet_cons]
        simp only [← h]
        by_cases h2 : k' = k <;> simp [h2]
      · rw [if_neg h] at hn
        obtain ⟨i, hi, rfl⟩ := Option.map_eq_some_iff.1 hn
        rw [List.modify_cons, if_neg (by omega), mGet_cons, mGet_cons, Nat.add_sub_cancel, ih i hi]
        by_cases h2 : k' = e.key
        · have : ¬ k' = k := fun e3 => h (e3.symm.trans h2)
          simp [h2, show ¬ e.key = k from fun e3 => h e3.symm]
        · simp [h2]
/-- Of the blocks that there were only those of F may have turned. -/
structure Only (F : Nat → Prop) (w w' : World) : Prop where
  os : w'.os = w.os
  tape : w'.tape = w.tape
  output : w'.output = w.output
  size : w.heap.size ≤ w'.heap.size
  block : ∀ k, k < w.heap.size → ¬ F k → w'.heap[k]? = w.heap[k]?
theorem Only.refl (F : Nat → Prop) (w : World) : Only F w w := ⟨rfl, rfl, rfl, Nat.le_refl _, fun _ _ _ => rfl⟩
theorem Only.trans {F G : Nat → Prop} {a b c : World} (h : Only F a b) (k : Only G b c) (hG : ∀ k, k < a.heap.size → G k → F k) : Only F a c :=
  ⟨k.os.trans h.os, k.tape.trans h.tape, k.output.trans h.output, Nat.le_trans h.size k.size, fun i hi hF => (k.block i (Nat.lt_of_lt_of_le hi h.size) (fun h => hF (hG i hi h))).trans (h.block i hi hF)⟩
theorem Only.of {F : Nat → Prop} {w w' : World} (h : Below w.heap.size w w') : Only F w w' := ⟨h.os, h.tape, h.output, h.size, fun k hk _ => h.block k hk⟩
theorem Only.grown {F : Nat → Prop} {w w' : World} {row : Option Nat} (h : w.grownBy w' row) (hr : ∀ k, row = some k → F k) : Only F w w' :=
  ⟨h.os, h.tape, h.output, h.size, fun k hk hF => h.block k hk fun e => hF (hr k e.symm)⟩
theorem Only.below {F : Nat → Prop} {B : Nat} {w w' : World} (h : Only F w w') (hB : B ≤ w.heap.size) (hF : ∀ k, F k → B ≤ k) : Below B w w' :=
  ⟨h.os, h.tape, h.output, h.size, fun k hk => h.block k (by omega) fun e => by have := hF k e; omega⟩
theorem Only.mono {F G : Nat → Prop} {w w' : World} (h : Only F w w') (hG : ∀ k, k < w.heap.size → F k → G k) : Only G w w' := ⟨h.os, h.tape, h.output, h.size, fun k hk hg => h.block k hk fun e => hg (hG k hk e)⟩
theorem Box.only {F : Nat → Prop} {w w' : World} {b : Nat} {cs : List Value} (h : Box w b cs) (ho : Only F w w') (hb : ¬ F b) : Box w' b cs :=
  ⟨Nat.lt_of_lt_of_le h.lt ho.size, fun j u hu => (World.cell?_of_block (by exact ho.block b h.lt hb)).trans (h.cell j u hu), fun j => (World.frozen?_of_block (by exact ho.block b h.lt hb)).trans (h.free j)⟩
theorem MMap.only {K : Type} {kc : K → Value} {F : Nat → Prop} {w w' : World} {m : Nat} {L : List (MEnt K)} {c : Nat} (h : MMap kc w m L c) (ho : Only F w w') (hb : ¬ F m) : MMap kc w' m L c := (ho.block m h.lt hb).trans h
theorem Owns.only {α : Type} {F : Nat → Prop} {base : Nat} {E : TypeId} {n : Nat} {C : α → List Value} {w w' : World} {v : Value} {l : List α} (h : Owns base E n C w v l) (ho : Only F w w') (hb : ∀ k, v.ownBlock = some k → ¬ F k) : Owns base E n C w' v l := by
  have hlt := h.lt
  obtain ⟨h1, h2⟩ := h
  refine ⟨h1, ?_⟩
  rcases h2 with h2 | ⟨g, cap, cur, rfl, hg, hc, h3⟩
  · exact .inl h2
  · exact .inr ⟨g, cap, cur, rfl, hg, (ho.block g (hlt g rfl).2 (hb g rfl)).trans hc, h3⟩

end Go.Proofs.YtecffghcpknmjaaDoor

/- Walks: which Gavs, Keys and pins may be, the program's and the document's; the conditions stand in the theorems. -/

namespace Go.Proofs.YtecffghcpknmjaaDoor
open Go Go.RowKit

theorem refIsId_b (s : S) (w : World) (hs : s.size ≤ 9223372036854775807) : Calls Tryd.prog 38 #[.string s] w fun e w' => e = .returned (.bool (isIdB s)) ∧ Below w.heap.size w w' :=
  (refIsId_any s w hs).mono fun _ _ ⟨h1, h2⟩ => ⟨h1, h2 ▸ Below.refl _ _⟩
theorem refVer_b (s : S) (w : World) (hs : s.size ≤ 9223372036854775807) : Calls Tryd.prog 39 #[.string s] w fun e w' => e = .returned (.bool (verMay s)) ∧ Below w.heap.size w w' :=
  (refVer_any s w hs).mono fun _ _ ⟨h1, h2⟩ => ⟨h1, h2 ▸ Below.refl _ _⟩
def gavSm (g : Gav) : Prop := g.group.size ≤ 9223372036854775807 ∧ g.artifact.size ≤ 9223372036854775807 ∧ g.version.size ≤ 9223372036854775807
set_option maxHeartbeats 2000000 in
theorem mayGav_any (g : Gav) (w : World) (h : gavSm g) :
    Calls Tryd.prog 53 #[.agg #[.string g.group, .string g.artifact, .string g.version]] w fun e w' => e = .returned (.bool (gavMay g)) ∧ Below w.heap.size w w' := by
  have HH := Lib.hid h
  clear h
  go_enter Tryd.func53, Tryd.ntmps53
  go_wp2_with fail
  refine Calls.world ?_
  intro W hW
  have x0 : Box W w.heap.size [.string g.group, .string g.artifact, .string g.version] := by rw [hW]; exact Box.new w _ _ _ rfl
  have hB0 : Below w.heap.size w W := by rw [hW]; exact (Below.refl _ _).alloc (Nat.le_refl _) _
  have X := Lib.hid x0
  have HB := Lib.hid hB0
  clear hW x0 hB0
  refine (isId_any g.group _ HH.out.1).mono ?_
  rintro e w0 ⟨rfl, hb⟩
  have X' := Lib.hid (X.out.below hb X.out.lt)
  have HB' := Lib.hid (HB.out.trans (hb.mono HB.out.size))
  clear hb X HB
  have X := X'
  have HB := HB'
  clear X' HB'
  cases hq : isIdB g.group
  · have HQ0 := Lib.hid hq
    clear hq
    have c0 := X.out.cell 0 _ rfl
    have c1 := X.out.cell 1 _ rfl
    have c2 := X.out.cell 2 _ rfl
    have l0 := X.out.lt
    go_wp2
    go_ret
    exact ⟨ret_bool (by have z := True.intro; unfold gavMay; rw [HQ0.out] <;> (first | done | (simp; done) | (simp; omega) | omega)), HB.out⟩
  have HQ0 := Lib.hid hq
  clear hq
  have c0 := X.out.cell 0 _ rfl
  have c1 := X.out.cell 1 _ rfl
  have c2 := X.out.cell 2 _ rfl
  have l0 := X.out.lt
  go_wp2_with fail
  refine (isId_any g.artifact _ HH.out.2.1).mono ?_
  rintro e w1 ⟨rfl, hb⟩
  have X' := Lib.hid (X.out.below hb X.out.lt)
  have HB' := Lib.hid (HB.out.trans (hb.mono HB.out.size))
  clear hb X HB
  clear c0 c1 c2 l0
  have X := X'
  have HB := HB'
  clear X' HB'
  cases hq : isIdB g.artifact
  · have HQ1 := Lib.hid hq
    clear hq
    have c0 := X.out.cell 0 _ rfl
    have c1 := X.out.cell 1 _ rfl
    have c2 := X.out.cell 2 _ rfl
    have l0 := X.out.lt
    go_wp2
    go_ret
    exact ⟨ret_bool (by have z := True.intro; unfold gavMay; rw [HQ0.out, HQ1.out] <;> (first | done | (simp; done) | (simp; omega) | omega)), HB.out⟩
  have HQ1 := Lib.hid hq
  clear hq
  have c0 := X.out.cell 0 _ rfl
  have c1 := X.out.cell 1 _ rfl
  have c2 := X.out.cell 2 _ rfl
  have l0 := X.out.lt
  go_wp2_with fail
  refine (ver_any g.version _ HH.out.2.2).mono ?_
  rintro e w2 ⟨rfl, hb⟩
  have X' := Lib.hid (X.out.below hb X.out.lt)
  have HB' := Lib.hid (HB.out.trans (hb.mono HB.out.size))
  clear hb X HB
  clear c0 c1 c2 l0
  have X := X'
  have HB := HB'
  clear X' HB'
  cases hq : verMay g.version
  · have HQ2 := Lib.hid hq
    clear hq
    have c0 := X.out.cell 0 _ rfl
    have c1 := X.out.cell 1 _ rfl
    have c2 := X.out.cell 2 _ rfl
    have l0 := X.out.lt
    go_wp2
    go_ret
    exact ⟨ret_bool (by have z := True.intro; unfold gavMay; rw [HQ0.out, HQ1.out, HQ2.out] <;> (first | done | (simp; done) | (simp; omega) | omega)), HB.out⟩
  have HQ2 := Lib.hid hq
  clear hq
  have c0 := X.out.cell 0 _ rfl
  have c1 := X.out.cell 1 _ rfl
  have c2 := X.out.cell 2 _ rfl
  have l0 := X.out.lt
  go_wp2
  go_ret
  exact ⟨ret_bool (by have z := True.intro; unfold gavMay; rw [HQ0.out, HQ1.out, HQ2.out] <;> (first | done | (simp; done) | (simp; omega) | omega)), HB.out⟩
set_option maxHeartbeats 2000000 in
theorem refMayGav_any (g : Gav) (w : World) (h : gavSm g) :
    Calls Tryd.prog 56 #[.agg #[.string g.group, .string g.artifact, .string g.version]] w fun e w' => e = .returned (.bool (gavMay g)) ∧ Below w.heap.size w w' := by
  have HH := Lib.hid h
  clear h
  go_enter Tryd.func56, Tryd.ntmps56
  go_wp2_with fail
  refine Calls.world ?_
  intro W hW
  have x0 : Box W w.heap.size [.string g.group, .string g.artifact, .string g.version] := by rw [hW]; exact Box.new w _ _ _ rfl
  have hB0 : Below w.heap.size w W := by rw [hW]; exact (Below.refl _ _).alloc (Nat.le_refl _) _
  have X := Lib.hid x0
  have HB := Lib.hid hB0
  clear hW x0 hB0
  refine (refIsId_b g.group _ HH.out.1).mono ?_
  rintro e w0 ⟨rfl, hb⟩
  have X' := Lib.hid (X.out.below hb X.out.lt)
  have HB' := Lib.hid (HB.out.trans (hb.mono HB.out.size))
  clear hb X HB
  have X := X'
  have HB := HB'
  clear X' HB'
  cases hq : isIdB g.group
  · have HQ0 := Lib.hid hq
    clear hq
    have c0 := X.out.cell 0 _ rfl
    have c1 := X.out.cell 1 _ rfl
    have c2 := X.out.cell 2 _ rfl
    have l0 := X.out.lt
    go_wp2
    go_ret
    exact ⟨ret_bool (by have z := True.intro; unfold gavMay; rw [HQ0.out] <;> (first | done | (simp; done) | (simp; omega) | omega)), HB.out⟩
  have HQ0 := Lib.hid hq
  clear hq
  have c0 := X.out.cell 0 _ rfl
  have c1 := X.out.cell 1 _ rfl
  have c2 := X.out.cell 2 _ rfl
  have l0 := X.out.lt
  go_wp2_with fail
  refine (refIsId_b g.artifact _ HH.out.2.1).mono ?_
  rintro e w1 ⟨rfl, hb⟩
  have X' := Lib.hid (X.out.below hb X.out.lt)
  have HB' := Lib.hid (HB.out.trans (hb.mono HB.out.size))
  clear hb X HB
  clear c0 c1 c2 l0
  have X := X'
  have HB := HB'
  clear X' HB'
  cases hq : isIdB g.artifact
  · have HQ1 := Lib.hid hq
    clear hq
    have c0 := X.out.cell 0 _ rfl
    have c1 := X.out.cell 1 _ rfl
    have c2 := X.out.cell 2 _ rfl
    have l0 := X.out.lt
    go_wp2
    go_ret
    exact ⟨ret_bool (by have z := True.intro; unfold gavMay; rw [HQ0.out, HQ1.out] <;> (first | done | (simp; done) | (simp; omega) | omega)), HB.out⟩
  have HQ1 := Lib.hid hq
  clear hq
  have c0 := X.out.cell 0 _ rfl
  have c1 := X.out.cell 1 _ rfl
  have c2 := X.out.cell 2 _ rfl
  have l0 := X.out.lt
  go_wp2_with fail
  refine (refVer_b g.version _ HH.out.2.2).mono ?_
  rintro e w2 ⟨rfl, hb⟩
  have X' := Lib.hid (X.out.below hb X.out.lt)
  have HB' := Lib.hid (HB.out.trans (hb.mono HB.out.size))
  clear hb X HB
  clear c0 c1 c2 l0
  have X := X'
  have HB := HB'
  clear X' HB'
  cases hq : verMay g.version
  · have HQ2 := Lib.hid hq
    clear hq
    have c0 := X.out.cell 0 _ rfl
    have c1 := X.out.cell 1 _ rfl
    have c2 := X.out.cell 2 _ rfl
    have l0 := X.out.lt
    go_wp2
    go_ret
    exact ⟨ret_bool (by have z := True.intro; unfold gavMay; rw [HQ0.out, HQ1.out, HQ2.out] <;> (first | done | (simp; done) | (simp; omega) | omega)), HB.out⟩
  have HQ2 := Lib.hid hq
  clear hq
  have c0 := X.out.cell 0 _ rfl
  have c1 := X.out.cell 1 _ rfl
  have c2 := X.out.cell 2 _ rfl
  have l0 := X.out.lt
  go_wp2
  go_ret
  exact ⟨ret_bool (by have z := True.intro; unfold gavMay; rw [HQ0.out, HQ1.out, HQ2.out] <;> (first | done | (simp; done) | (simp; omega) | omega)), HB.out⟩

end Go.Proofs.YtecffghcpknmjaaDoor

/- Walks: the document's cutting of texts: Lines, Pieces, words; the conditions stand in the theorems. -/
namespace Go.Proofs.YtecffghcpknmjaaDoor
open Go Go.RowKit

theorem info_str : (Tryd.prog.info? 9).map (fun i => (i.zero, i.size, i.bytes)) = some (some (.string ⟨#[]⟩), 1, 16) := by kernel_rfl
theorem strC_len (s : S) : (strC s).length = 1 := rfl

end Go.Proofs.YtecffghcpknmjaaDoor

/- The walk of pom's properties; the conditions stand in the theorem. -/

namespace Go.Proofs.YtecffghcpknmjaaDoor
open Go Go.RowKit

theorem prpC_len2 (x : Prp) : (prpC x).length = 2 := rfl

end Go.Proofs.YtecffghcpknmjaaDoor

/- The walk of a dependency in pom's reader; the conditions stand in the theorem. -/
namespace Go.Proofs.YtecffghcpknmjaaDoor
open Go Go.RowKit

theorem Box.apart {w : World} {b c : Nat} {cs : List Value} (h : Box w b cs) (hne : b ≠ c) (j : Nat) (v : Value) : Box (w.setCell ⟨c, j, none⟩ v) b cs := h.grown (setCell_grown w c j v) (by simpa using hne)
theorem idC_len2 (x : Id) : (idC x).length = 2 := rfl

end Go.Proofs.YtecffghcpknmjaaDoor

/- The walk of the dependencies of an element in pom's reader; the conditions stand in the theorem. -/

namespace Go.Proofs.YtecffghcpknmjaaDoor
open Go Go.RowKit

theorem depC_len8 (x : Dep × Value) : (depC x).length = 8 := rfl
/-- A row of dependencies of the call's own, with their exclusions. -/
structure DepsOwn (base : Nat) (w : World) (v : Value) (ds : List Dep) (L : List (Dep × Value)) : Prop where
  row : Owns base 192 8 depC w v L
  are : L.map (·.1) = ds
  excl : ∀ p ∈ L, Owns base 24 2 idC w p.2 p.1.excl
theorem DepsOwn.below {base : Nat} {w w' : World} {v : Value} {ds : List Dep} {L : List (Dep × Value)} (h : DepsOwn base w v ds L) (hb : Below w.heap.size w w') : DepsOwn base w' v ds L :=
  ⟨h.row.below hb, h.are, fun p hp => (h.excl p hp).below hb⟩
theorem DepsOwn.base_mono {base B : Nat} {w : World} {v : Value} {ds : List Dep} {L : List (Dep × Value)} (h : DepsOwn base w v ds L) (hb : B ≤ base) : DepsOwn B w v ds L :=
  ⟨h.row.base_mono hb, h.are, fun p hp => (h.excl p hp).base_mono hb⟩
theorem DepsOwn.nil (base : Nat) (w : World) : DepsOwn base w (.slice none 0 0) [] [] := ⟨Owns.nil, rfl, by simp⟩
theorem DepsOwn.of {base : Nat} {w : World} {v : Value} {ds : List Dep} {L : List (Dep × Value)} (h : DepsOwn base w v ds L) : DepsOf w v ds :=
  ⟨L, h.are, h.row.slice depC_len8, fun p hp => (h.excl p hp).slice idC_len2⟩
/-- Beside a block that is none of the rows. -/
theorem DepsOwn.keptR {base : Nat} {w w' : World} {v : Value} {ds : List Dep} {L : List (Dep × Value)} {r : Nat} (h : DepsOwn base w v ds L) (hg : w.grownBy w' (some r)) (hr : r < base) : DepsOwn base w' v ds L :=
  ⟨h.row.keptR hg hr, h.are, fun p hp => (h.excl p hp).keptR hg hr⟩

end Go.Proofs.YtecffghcpknmjaaDoor
