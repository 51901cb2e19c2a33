/- The walk of the document's May of a Meta; the conditions stand in the theorem. -/
import Derived.Test.YtecffghcpknmjaaDoorJO06
import Derived.Test.YtecffghcpknmjaaDoorJO02
import Derived.Test.YtecffghcpknmjaaDoorQB
import Derived.Test.YtecffghcpknmjaaDoorSB
import Derived.KernelRfl
import Derived.Laws.StructEq
import Derived.MapKept
import Derived.WalkKit

namespace Go.Proofs.YtecffghcpknmjaaDoor
open Go Go.RowKit

theorem memB_snoc (l : List S) (y x : S) : memB (l ++ [y]) x = (memB l x || decide (y = x)) := by unfold memB; rw [List.any_append]; simp
/-- The document's Compare answers the order (V12). -/
def RefCmpOk : Prop := ∀ (a b : S) (W : World), a.size ≤ 900000 → b.size ≤ 900000 → Calls Tryd.prog 18 #[.string a, .string b] W fun e w' => e = .returned (.int .i64 (cmpSV a b)) ∧ Below W.heap.size W w'
theorem refCmpOk_of (HPT : RefPartsOk) : RefCmpOk := fun a b W ha hb => refCompareV_of HPT a b W ha hb
attribute [local go_sem ↓] str_beqV in
set_option maxRecDepth 100000 in
set_option maxHeartbeats 4000000 in
theorem refMetaMay_of (HPT : RefPartsOk) (m : MetaD) (v : Value) (w : World) (h : SliceOf 1 strC w v m.vers) (hsm : MetaSm m) :
    Calls Tryd.prog 16 #[metaAg m v] w fun e w' => e = .returned (.bool (mayM m)) ∧ Below w.heap.size w w' := by
  have HCMP0 := Lib.hid (refCmpOk_of HPT)
  have HOF0 := Lib.hid (fun (d : Id) (l : List S) (v : Value) (w : World) h1 h2 h3 => refMetaOf_of HPT d l v w h1 h2 h3)
  clear HPT
  have HG := Lib.hid hsm.g
  have HA := Lib.hid hsm.a
  have HLN := Lib.hid hsm.n
  have HSMALL := Lib.hid hsm.v
  have HS := Lib.hid h
  obtain ⟨ao, c, rfl⟩ := h.shape
  have HM : Hid (mayM m = (isIdB m.id.group && isIdB m.id.artifact && !m.vers.isEmpty && decide (m.vers.length ≤ 1024) && rowM m.vers m.vers.length 0 && decide (m.latest = lastV m.vers) && decide (m.rel = relV m.vers))) := rfl
  clear h hsm
  obtain ⟨⟨mg, ma⟩, l, la, re⟩ := m
  simp only at HG HA HLN HSMALL HS HM
  obtain ⟨MM, hMM⟩ : ∃ x, mayM ⟨⟨mg, ma⟩, l, la, re⟩ = x := ⟨_, rfl⟩
  rw [hMM] at HM ⊢
  clear hMM
  unfold metaAg metaC
  go_enter Tryd.func16, Tryd.ntmps16
  go_upto_region 1 with fail
  refine wp_world ?_
  intro W hW
  have x1 : Box W w.heap.size [.string mg, .string ma, .slice ao l.length c, .string la, .string re] := by rw [hW]; exact Box.new w [.string mg, .string ma, .slice ao l.length c, .string la, .string re] _ _ rfl
  have hb : Below w.heap.size w W := by rw [hW]; exact (Below.refl _ w).alloc (Nat.le_refl _) _
  clear hW
  have HX := Lib.hid x1
  have HB := Lib.hid hb
  clear x1 hb
  have x0 := HX.out.cell 0 _ rfl
  have x1 := HX.out.cell 1 _ rfl
  have x2 := HX.out.cell 2 _ rfl
  have x3 := HX.out.cell 3 _ rfl
  have x4 := HX.out.cell 4 _ rfl
  have xl := HX.out.lt
  by_cases h0 : l.length = 0
  · have e0 : ((l.length : Int) == 0) = true := by rw [beq_iff_eq]; omega
    have e0n : (l.length == 0) = true := by rw [beq_iff_eq]; exact h0
    have HMF : Hid (MM = false) := by show _ = _; rw [HM.out, List.eq_nil_of_length_eq_zero h0]; simp
    clear h0
    go_wp2
    go_ret
    exact ⟨by rw [HMF.out]; rfl, HB.out⟩
  · have e0 : ((l.length : Int) == 0) = false := by rw [beq_eq_false_iff_ne]; omega
    have e0n : (l.length == 0) = false := by rw [beq_eq_false_iff_ne]; exact h0
    have HE : Hid (l.isEmpty = false) := by show _ = _; rw [List.isEmpty_eq_false_iff]; intro e; rw [e] at h0; exact h0 rfl
    by_cases h1 : l.length ≤ 1024
    · have d1 : decide ((1024 : Int) < (l.length : Int)) = false := decide_eq_false (by omega)
      have d1n : decide (1024 < l.length) = false := decide_eq_false (by omega)
      have d1p : ¬ (1024 : Int) < (l.length : Int) := by omega
      obtain ⟨b, o, hao, hx1, hx2⟩ := (HS.out).at1 (k := 0) (by omega)
      clear hx1 hx2
      cases hao
      have HNZ := Lib.hid h0
      have HM1 : Hid (MM = (isIdB mg && isIdB ma && (rowM l (l.length - 0) 0 && decide (la = lastV l) && decide (re = relV l)))) := by show _ = _; rw [HM.out, HE.out, decide_eq_true h1]; simp [Bool.and_assoc]
      clear h0 h1 HM HE
      go_wp2_with fail
      refine (refIsId_any mg _ HG.out).mono ?_
      rintro e wq ⟨rfl, rfl⟩
      cases hg : isIdB mg with
      | false =>
        rw [hg] at HM1
        clear hg
        go_wp2
        go_ret
        exact ⟨by rw [HM1.out]; simp, HB.out⟩
      | true =>
        rw [hg] at HM1
        clear hg
        go_wp2_with fail
        refine (refIsId_any ma _ HA.out).mono ?_
        rintro e wq ⟨rfl, rfl⟩
        cases hg : isIdB ma with
        | false =>
          rw [hg] at HM1
          clear hg
          go_wp2
          go_ret
          exact ⟨by rw [HM1.out]; simp, HB.out⟩
        | true =>
          rw [hg] at HM1
          clear hg
          have HM2 : Hid (MM = (rowM l (l.length - 0) 0 && decide (la = lastV l) && decide (re = relV l))) := by show _ = _; rw [HM1.out]; simp
          clear HM1 HG HA
          go_wp2
          clear x0 x1 x2 x3 x4 xl
          clear d1 d1n d1p e0 e0n
          go_loopw [34] (fun i wr => ∃ k : Nat, i = .int .i64 k ∧ k ≤ l.length ∧ Hid (Box wr w.heap.size [.string mg, .string ma, .slice (some ⟨b, o, none⟩) l.length c, .string la, .string re]) ∧ Hid (Below w.heap.size w wr) ∧ Hid (MM = (rowM l (l.length - k) k && decide (la = lastV l) && decide (re = relV l)))) (fun i _ => l.length - (intOf i).toNat)
          case atStart => exact ⟨0, rfl, Nat.zero_le _, HX, HB, HM2⟩
          case round =>
            clear HX HB HM2
            obtain ⟨k, rfl, hk, HX, HB, HM⟩ := hrel
            by_cases hlt : k < l.length
            · have hSr := HS.out.below HB.out
              obtain ⟨b', o', hao, hbl, hc⟩ := hSr.at1 hlt
              cases hao
              have HSr := Lib.hid hSr
              clear hSr
              have HSTEP := Lib.hid (rowM_step hlt)
              have HV := Lib.hid (HSMALL.out l[k] (List.getElem_mem hlt))
              have d1 : (k : Int) < (l.length : Int) := by omega
              have wk : IntKind.i64.wrap ((k : Int) + 1) = (k : Int) + 1 := IntWalk.i64_in _ (by have := HLN.out; omega)
              have HST : Hid (stepM l k l[k] = (verMay l[k] && !memB (l.take k) l[k] && !(decide (0 < k) && decide (0 < cmpSV (l.getD (k - 1) ⟨#[]⟩) l[k])))) := rfl
              generalize l[k] = x at *
              generalize stepM l k x = st at *
              rw [show rowM l (l.length - k) k = _ from HSTEP.out] at HM
              have hSr0 := HSr.out
              obtain ⟨qc, hqc⟩ : ∃ q, (!verMay x || (decide (0 < k) && decide (0 < cmpSV (l.getD (k - 1) ⟨#[]⟩) x))) = q := ⟨_, rfl⟩
              have HQC := Lib.hid hqc
              clear hqc HSTEP
              go_upto_region 7 with fail
              go_cut [56] from 39 to 55 (fun z wx => z = .bool qc ∧ Hid (Box wx w.heap.size [.string mg, .string ma, .slice (some ⟨b, o, none⟩) l.length c, .string la, .string re]) ∧ Hid (Below w.heap.size w wx))
              case first =>
                clear hSr0 hc hbl
                have HV2 := Lib.hid (refVer_any x wr (by have := HV.out; omega))
                have x0 := HX.out.cell 0 _ rfl
                have x1 := HX.out.cell 1 _ rfl
                have x2 := HX.out.cell 2 _ rfl
                have x3 := HX.out.cell 3 _ rfl
                have x4 := HX.out.cell 4 _ rfl
                have xl := HX.out.lt
                go_wp2_with fail
                refine HV2.out.mono ?_
                rintro e wq ⟨rfl, rfl⟩
                cases hq : verMay x with
                | false =>
                  have hz : qc = true := by rw [← show _ = qc from HQC.out, hq]; rfl
                  subst hz
                  clear HQC HST
                  go_wp2
                  go_meet
                  case rel => exact ⟨rfl, HX, HB⟩
                | true =>
                  cases k with
                  | zero =>
                    have hz : qc = false := by rw [← show _ = qc from HQC.out, hq]; rfl
                    subst hz
                    clear HQC HST
                    go_wp2
                    go_meet
                    case rel => exact ⟨rfl, HX, HB⟩
                  | succ kp =>
                    have hkp : kp < l.length := by omega
                    obtain ⟨b', o', hao, hbl, hc⟩ := HSr.out.at1 hkp
                    cases hao
                    have HV3 := Lib.hid (HSMALL.out l[kp] (List.getElem_mem hkp))
                    have hgd : l.getD (kp + 1 - 1) ⟨#[]⟩ = l[kp] := by rw [Nat.add_sub_cancel, List.getD_eq_getElem?_getD, List.getElem?_eq_getElem hkp]; rfl
                    have hz : decide (0 < cmpSV l[kp] x) = qc := by rw [← show _ = qc from HQC.out, hq, hgd]; simp
                    have pg1 : decide ((0 : Int) < (kp : Int) + 1) = true := decide_eq_true (by omega)
                    have pg2 : (0 : Int) < (kp : Int) + 1 := by omega
                    have pg3 : IntKind.i64.wrap ((kp : Int) + 1 - 1) = (kp : Int) := by rw [show (kp : Int) + 1 - 1 = (kp : Int) by omega]; exact IntWalk.i64_in _ (by have := HLN.out; omega)
                    have pg4 : IntKind.i64.wrap (kp : Int) = (kp : Int) := IntWalk.i64_in _ (by have := HLN.out; omega)
                    have pg5 : (kp : Int) < (l.length : Int) := by omega
                    have pg6 : decide (0 < kp + 1) = true := decide_eq_true (by omega)
                    generalize l[kp] = y at *
                    have HCMP := Lib.hid (HCMP0.out y x wr HV3.out HV.out)
                    generalize cmpSV y x = cv at *
                    clear hgd HQC HST hq
                    go_wp2_with fail
                    refine HCMP.out.mono ?_
                    rintro e w5 ⟨rfl, hb5⟩
                    have HX5 := Lib.hid (HX.out.below hb5 HX.out.lt)
                    have HB5 := Lib.hid (HB.out.trans (hb5.mono HB.out.size))
                    clear hb5 HX HB
                    go_wp2
                    go_meet
                    case rel => exact ⟨by first | rfl | rw [hz], HX5, HB5⟩
              case rest =>
                obtain ⟨rfl, HX, HB⟩ := hcut
                clear hc hbl hSr0 HSr
                cases qc with
                | true =>
                  have HMF : Hid (MM = false) := by
                    show _ = _
                    have h1 := HQC.out
                    rw [HM.out, HST.out]
                    change _ = _ at h1
                    generalize (decide (0 < k) && decide (0 < cmpSV (l.getD (k - 1) ⟨#[]⟩) x)) = A at h1 ⊢
                    cases hv : verMay x <;> cases A <;> simp_all
                  clear HM HST HQC
                  go_wp2
                  go_ret
                  exact ⟨by rw [HMF.out]; rfl, HB.out⟩
                | false =>
                  have HST2 : Hid (st = !memB (l.take k) x) := by
                    show _ = _
                    have h1 := HQC.out
                    rw [HST.out]
                    change _ = _ at h1
                    generalize (decide (0 < k) && decide (0 < cmpSV (l.getD (k - 1) ⟨#[]⟩) x)) = A at h1 ⊢
                    cases hv : verMay x <;> cases A <;> simp_all
                  have HSW := Lib.hid (HS.out.below HB.out)
                  clear HST HQC
                  have x0 := HX.out.cell 0 _ rfl
                  have x1 := HX.out.cell 1 _ rfl
                  have x2 := HX.out.cell 2 _ rfl
                  have x3 := HX.out.cell 3 _ rfl
                  have x4 := HX.out.cell 4 _ rfl
                  have xl := HX.out.lt
                  have pk1 : (0 : Int) ≤ (k : Int) := by omega
                  have pk2 : (k : Int) ≤ (l.length : Int) := by omega
                  have pk3 : (l.length : Int) ≤ (c : Int) := by obtain ⟨_, _, e1, e2, _⟩ := HS.out; cases e1; omega
                  obtain ⟨W2, hW2⟩ : ∃ W', W' = wc := ⟨_, rfl⟩
                  rw [← hW2] at HX HB HSW
                  subst hW2
                  go_wp2
                  clear pk1 pk2 pk3
                  go_loopw [62] (fun i wr => ∃ j : Nat, i = .int .i64 j ∧ j ≤ k ∧ W2 = wr ∧ Hid (memB (l.take j) x = false)) (fun i _ => k - (intOf i).toNat)
                  case atStart => exact ⟨0, rfl, Nat.zero_le _, rfl, rfl⟩
                  case round =>
                    obtain ⟨j, rfl, hj, rfl, HMB⟩ := hrel
                    by_cases hjk : j < k
                    · have hjl : j < l.length := by omega
                      obtain ⟨b', o', hao, hbl, hc⟩ := HSW.out.at1 hjl
                      cases hao
                      have hsn := memB_snoc (l.take j) l[j] x
                      rw [← take_snoc hjl, show memB (l.take j) x = false from HMB.out, Bool.false_or] at hsn
                      have HSNO := Lib.hid hsn
                      have HIN : Hid (l[j] ∈ l.take k) := by show _ ∈ _; rw [List.mem_take_iff_getElem]; exact ⟨j, by omega, rfl⟩
                      clear hsn
                      have e1 : (j : Int) < (k : Int) := by omega
                      have wj : IntKind.i64.wrap ((j : Int) + 1) = (j : Int) + 1 := IntWalk.i64_in _ (by have := HLN.out; omega)
                      generalize l[j] = y at *
                      generalize hyx : decide (y = x) = q at *
                      cases q with
                      | true =>
                        have HMF : Hid (MM = false) := by
                          show _ = _
                          have := of_decide_eq_true hyx
                          rw [HM.out, HST2.out, memB_iff.2 (by rw [← this]; exact HIN.out)]; simp
                        clear HM HST2 HSNO HIN HMB
                        go_wp2
                        go_ret
                        exact ⟨by rw [HMF.out]; rfl, HB.out⟩
                      | false =>
                        clear HIN HMB
                        go_wp2
                        go_roundw
                        case rel => exact ⟨j + 1, by first | rfl | go_num, hjk, (by trivial), HSNO⟩
                        case measure => simp [intOf]; omega
                    · obtain rfl : j = k := by omega
                      have HM2 : Hid (MM = (rowM l (l.length - (j + 1)) (j + 1) && decide (la = lastV l) && decide (re = relV l))) := by show _ = _; rw [HM.out, HST2.out, show memB (l.take j) x = false from HMB.out]; simp
                      have e1 : ¬ (j : Int) < (j : Int) := by omega
                      clear HM HST2 HMB
                      go_wp2
                      go_roundw
                      case rel => exact ⟨j + 1, by first | rfl | go_num, hlt, HX, HB, HM2⟩
                      case measure => simp [intOf]; omega
            · obtain rfl : k = l.length := by omega
              have d1 : ¬ (l.length : Int) < (l.length : Int) := by omega
              have HM2 : Hid (MM = (decide (la = lastV l) && decide (re = relV l))) := by show _ = _; rw [HM.out, rowM_end]; simp
              have HM3 : Hid (decide ((⟨⟨mg, ma⟩, l, la, re⟩ : MetaD) = ⟨⟨mg, ma⟩, l, lastV l, relV l⟩) = MM) := by show _ = _; rw [metaD_eq, HM2.out]; simp
              clear HM hlt hk HM2
              have hSr := HS.out.below HB.out
              have HO : Hid (∀ z : Later wr, Calls Tryd.prog 12 #[.agg #[.string mg, .string ma], .slice (some ⟨b, o, none⟩) l.length c] z.at_ fun e w'' => e = .returned (.agg #[.string mg, .string ma, .slice (some ⟨b, o, none⟩) l.length c, .string (lastV l), .string (relV l)]) ∧ ∃ u : Later wr, w'' = u.at_) := fun z => Later.call (HOF0.out ⟨mg, ma⟩ l _ _ (hSr.below z.below) HLN.out HSMALL.out)
              have HSA : Hid (∀ z : Later wr, Calls Tryd.prog 10 #[.agg #[.string mg, .string ma, .slice (some ⟨b, o, none⟩) l.length c, .string la, .string re], .agg #[.string mg, .string ma, .slice (some ⟨b, o, none⟩) l.length c, .string (lastV l), .string (relV l)]] z.at_ fun e w'' => e = .returned (.bool MM) ∧ ∃ u : Later wr, w'' = u.at_) := fun z => Later.call (by
                have := refMetaSame_any ⟨⟨mg, ma⟩, l, la, re⟩ ⟨⟨mg, ma⟩, l, lastV l, relV l⟩ (.slice (some ⟨b, o, none⟩) l.length c) (.slice (some ⟨b, o, none⟩) l.length c) z.at_ (hSr.below z.below) (hSr.below z.below) HLN.out
                rw [HM3.out] at this
                exact this)
              clear HM3 hSr HOF0 HCMP0
              generalize lastV l = lv at *
              generalize relV l = rv at *
              have x0 := HX.out.cell 0 _ rfl
              have x1 := HX.out.cell 1 _ rfl
              have x2 := HX.out.cell 2 _ rfl
              have x3 := HX.out.cell 3 _ rfl
              have x4 := HX.out.cell 4 _ rfl
              have xl := HX.out.lt
              have hLL := @Later.cells wr
              go_wp2_with fail
              refine region_later (by kernel_rfl) (by kernel_rfl) ?_
              repeat (go_big_quiet_step ((first | (go_at_call 12; with_reducible exact HO.out _) | (go_at_call 10; with_reducible exact HSA.out _))))
              refine wpQuiet_nil ?_
              rintro _ ⟨nx, rfl⟩
              have HBn := Lib.hid (HB.out.trans (nx.below.mono HB.out.size))
              clear hLL x0 x1 x2 x3 x4 xl HO HSA
              generalize nx.at_ = wn at *
              go_wp2
              go_ret
              exact ⟨rfl, HBn.out⟩
    · have d1 : decide ((1024 : Int) < (l.length : Int)) = true := decide_eq_true (by omega)
      have d1n : decide (1024 < l.length) = true := decide_eq_true (by omega)
      have d1p : (1024 : Int) < (l.length : Int) := by omega
      have HMF : Hid (MM = false) := by show _ = _; rw [HM.out, decide_eq_false h1]; simp
      clear h0 h1
      go_wp2
      go_ret
      exact ⟨by rw [HMF.out]; rfl, HB.out⟩

end Go.Proofs.YtecffghcpknmjaaDoor

/- The walk of the document's above; the conditions stand in the theorem. -/
namespace Go.Proofs.YtecffghcpknmjaaDoor
open Go Go.RowKit

theorem cmpBS_range (a b : S) : cmpBS a b = -1 ∨ cmpBS a b = 0 ∨ cmpBS a b = 1 := cmpB_range _ _
theorem bytesLess_cmp : ∀ l m : Bs, Op.bytesLess l m = decide (Lib.compareBytes l m = -1)
  | [], [] => rfl
  | [], _ :: _ => rfl
  | _ :: _, [] => rfl
  | x :: l, y :: m => by
    simp only [Op.bytesLess, Lib.compareBytes]
    by_cases h1 : x < y
    · simp [h1]
    · by_cases h2 : y < x
      · have h3 : ¬ x = y := by intro e; subst e; exact h1 h2
        simp [h1, h2, h3]
      · have : x = y := by rw [UInt8.lt_iff_toNat_lt] at h1 h2; exact UInt8.toNat_inj.1 (by omega)
        subst this
        simp [bytesLess_cmp l m]
theorem less_cmp (a b : S) : Op.bytesLess a.toList b.toList = decide (cmpBS a b = -1) := by rw [ByteArray.toList_eq, ByteArray.toList_eq]; exact bytesLess_cmp _ _
theorem str_eq_cmp (a b : S) : (a.toList == b.toList) = decide (cmpBS a b = 0) := by
  rw [ByteArray.toList_eq, ByteArray.toList_eq, Bool.eq_iff_iff, beq_iff_eq, decide_eq_true_iff]
  constructor
  · intro h; unfold cmpBS; rw [h]; exact cmpB_refl _
  · intro h; rw [cmpBS_zero.1 h]
theorem more_cmp (a b : S) (t : TypeId) (w : World) : (binOp .gtr t (.string a) (.string b)).run Tryd.prog w = .ok (.bool (decide (cmpBS a b = 1))) w := by
  have h1 := less_cmp a b
  have h2 := str_eq_cmp a b
  simp [binOp, Op.stringOp, h1, h2, go_sem]
  rcases cmpBS_range a b with h | h | h <;> simp [h]

set_option maxRecDepth 100000 in
set_option maxHeartbeats 4000000 in
theorem above_of (HPT : RefPartsOk) (a b : Gav) (w : World) (ha : a.version.size ≤ 900000) (hb : b.version.size ≤ 900000) : Calls Tryd.prog 58 #[.agg #[.string a.group, .string a.artifact, .string a.version], .agg #[.string b.group, .string b.artifact, .string b.version]] w fun e w' => e = .returned (.bool (ltG b a)) ∧ Below w.heap.size w w' := by
  have HC : Hid (∀ W, Calls Tryd.prog 18 #[.string a.version, .string b.version] W fun e w' => e = .returned (.int .i64 (cmpSV a.version b.version)) ∧ Below W.heap.size W w') := fun W => refCmpOk_of HPT a.version b.version W ha hb
  have HL : Hid (ltG b a = if cmpBS a.group b.group = 0 then (if cmpBS a.artifact b.artifact = 0 then decide (0 < cmpSV a.version b.version) else decide (cmpBS a.artifact b.artifact = 1)) else decide (cmpBS a.group b.group = 1)) := by
    show _ = _
    have e : ltG b a = decide (0 < cmpG a b) := by
      unfold ltG
      have h := cmpG_cmpr.flip a b
      rw [decide_eq_decide]; omega
    rw [e]
    have r1 := cmpBS_range a.group b.group
    have r2 := cmpBS_range a.artifact b.artifact
    unfold cmpG lexC
    by_cases h1 : cmpBS a.group b.group = 0
    · rw [if_pos h1]
      simp only [h1, ne_eq, not_true_eq_false, if_false]
      by_cases h2 : cmpBS a.artifact b.artifact = 0
      · rw [if_pos h2]
        simp only [h2, not_true_eq_false, if_false]
      · rw [if_neg h2]
        simp only [h2, not_false_eq_true, if_true]
        rw [decide_eq_decide]; omega
    · rw [if_neg h1]
      simp only [h1, ne_eq, not_false_eq_true, if_true]
      rw [decide_eq_decide]; omega
  clear ha hb HPT
  obtain ⟨ag, aa, av⟩ := a
  obtain ⟨bg, ba, bv⟩ := b
  simp only at HC HL ⊢
  have g1 := str_eq_cmp ag bg
  have g2 := less_cmp ag bg
  have g3 := str_eq_cmp aa ba
  have g4 := less_cmp aa ba
  have r1 := cmpBS_range ag bg
  have r2 := cmpBS_range aa ba
  generalize ltG ⟨bg, ba, bv⟩ ⟨ag, aa, av⟩ = L at *
  generalize cmpBS ag bg = c1 at *
  generalize cmpBS aa ba = c2 at *
  generalize cmpSV av bv = c3 at *
  go_enter Tryd.func58, Tryd.ntmps58
  go_upto_region 1 with fail
  refine wp_world ?_
  intro W hW
  have x1 : Box W w.heap.size [.string ag, .string aa, .string av] := by rw [hW]; exact (Box.new w [.string ag, .string aa, .string av] _ _ rfl).alloc _
  have y1 : Box W (w.heap.size + 1) [.string bg, .string ba, .string bv] := by rw [hW]; exact Box.new _ [.string bg, .string ba, .string bv] _ _ (by simp)
  have hb : Below w.heap.size w W := by rw [hW]; exact ((Below.refl _ w).alloc (Nat.le_refl _) _).alloc (by simp) _
  clear hW
  have HB := Lib.hid hb
  have x0 := x1.cell 0 _ rfl
  have x2 := x1.cell 1 _ rfl
  have x3 := x1.cell 2 _ rfl
  have xl := x1.lt
  have y0 := y1.cell 0 _ rfl
  have y2 := y1.cell 1 _ rfl
  have y3 := y1.cell 2 _ rfl
  have yl := y1.lt
  clear x1 y1 hb
  rcases r1 with rfl | rfl | rfl
  · have HR : Hid (L = false) := by show _ = _; rw [HL.out, if_neg (by decide)]; rfl
    rw [show decide ((-1 : Int) = 0) = false from rfl] at g1
    rw [show decide ((-1 : Int) = -1) = true from rfl] at g2
    clear HL g3 g4 r2
    go_wp2
    go_ret
    exact ⟨by rw [HR.out]; rfl, HB.out⟩
  · rw [show decide ((0 : Int) = 0) = true from rfl] at g1
    clear g2
    rcases r2 with rfl | rfl | rfl
    · have HR : Hid (L = false) := by show _ = _; rw [HL.out, if_pos rfl, if_neg (by decide)]; rfl
      rw [show decide ((-1 : Int) = 0) = false from rfl] at g3
      rw [show decide ((-1 : Int) = -1) = true from rfl] at g4
      clear HL
      go_wp2
      go_ret
      exact ⟨by rw [HR.out]; rfl, HB.out⟩
    · rw [show decide ((0 : Int) = 0) = true from rfl] at g3
      have HR : Hid (L = decide (0 < c3)) := by show _ = _; rw [HL.out, if_pos rfl, if_pos rfl]
      clear HL g4
      go_wp2_with fail
      refine (HC.out _).mono ?_
      rintro e w1 ⟨rfl, hb1⟩
      have HB1 := Lib.hid (HB.out.trans (hb1.mono HB.out.size))
      clear hb1
      go_wp2
      go_ret
      exact ⟨by rw [HR.out]; rfl, HB1.out⟩
    · have HR : Hid (L = true) := by show _ = _; rw [HL.out, if_pos rfl, if_neg (by decide)]; rfl
      rw [show decide ((1 : Int) = 0) = false from rfl] at g3
      rw [show decide ((1 : Int) = -1) = false from rfl] at g4
      clear HL
      go_wp2
      go_ret
      exact ⟨by rw [HR.out]; rfl, HB.out⟩
  · have HR : Hid (L = true) := by show _ = _; rw [HL.out, if_neg (by decide)]; rfl
    rw [show decide ((1 : Int) = 0) = false from rfl] at g1
    rw [show decide ((1 : Int) = -1) = false from rfl] at g2
    clear HL g3 g4 r2
    go_wp2
    go_ret
    exact ⟨by rw [HR.out]; rfl, HB.out⟩

end Go.Proofs.YtecffghcpknmjaaDoor

/- The walk of the document's At; the conditions stand in the theorem. -/
namespace Go.Proofs.YtecffghcpknmjaaDoor
open Go Go.RowKit

theorem eqg_gavV : Tryd.prog.eqGuardType Tryd.prog.depth 60 = false := by kernel_rfl
theorem eqs_gavV : Tryd.prog.stoodInHeld 60 = false := by kernel_rfl
theorem eql_gavV (a0 a1 a2 b0 b1 b2 : S) (w : World) : (binOp .eql 60 (.agg #[.string a0, .string a1, .string a2]) (.agg #[.string b0, .string b1, .string b2])).run Tryd.prog w = .ok (.bool (decide ((⟨a0, a1, a2⟩ : Gav) = ⟨b0, b1, b2⟩))) w := by
  have h := eqs_gavV
  by_cases h0 : a0 = b0 <;> by_cases h1 : a1 = b1 <;> by_cases h2 : a2 = b2 <;> simp [go_sem, h, h0, h1, h2, str_beqV]
theorem SliceOf.atG {w : World} {ao : Option Addr} {len cap : Nat} {l : List Gav} (h : SliceOf 3 gavC w (.slice ao len cap) l) {k : Nat} (hk : k < l.length) :
    ∃ b o, ao = some ⟨b, o, none⟩ ∧ b < w.heap.size ∧ w.cell? ⟨b, o + k * 3, none⟩ = some (.string l[k].group) ∧ w.cell? ⟨b, o + k * 3 + 1, none⟩ = some (.string l[k].artifact) ∧ w.cell? ⟨b, o + k * 3 + 2, none⟩ = some (.string l[k].version) := by
  obtain ⟨ao', cap', h1, h2, hm, h3, h4⟩ := h
  cases h1
  obtain ⟨b, o, e, hlt, hc⟩ := h4 k l[k] (List.getElem?_eq_getElem hk)
  exact ⟨b, o, e, hlt, hc 0 _ rfl, hc 1 _ rfl, hc 2 _ rfl⟩
set_option maxRecDepth 100000 in
set_option maxHeartbeats 4000000 in
theorem docAt_any (g : Gav) (b : Nat) (vg vt vr va : Value) (gs : List Gav) (w : World) (hx : Box w b [vg, vt, vr, va]) (hs : SliceOf 3 gavC w vg gs) (hl : gs.length ≤ 1000000) :
    Calls Tryd.prog 57 #[.pointer (some ⟨b, 0, none⟩), .agg #[.string g.group, .string g.artifact, .string g.version]] w fun e w' => ∃ i : Int, e = .returned (.int .i64 i) ∧ (0 ≤ i ↔ g ∈ gs) ∧ Below w.heap.size w w' := by
  obtain ⟨ao, c, rfl⟩ := hs.shape
  have HL := Lib.hid hl
  have HS := Lib.hid hs
  have HX := Lib.hid hx
  clear hl hs hx
  obtain ⟨gg, ga, gv⟩ := g
  simp only
  go_enter Tryd.func57, Tryd.ntmps57
  go_upto_region 1 with fail
  refine wp_world ?_
  intro W hW
  have y1 : Box W w.heap.size [.string gg, .string ga, .string gv] := by rw [hW]; exact Box.new w [.string gg, .string ga, .string gv] _ _ rfl
  have hb : Below w.heap.size w W := by rw [hW]; exact (Below.refl _ w).alloc (Nat.le_refl _) _
  clear hW
  have HY := Lib.hid y1
  have HB := Lib.hid hb
  have HXW := Lib.hid (HX.out.below hb HX.out.lt)
  have HSW := Lib.hid (HS.out.below hb)
  clear y1 hb HX HS
  have x0 := HXW.out.cell 0 _ rfl
  have xl := HXW.out.lt
  go_upto_region 2 with fail
  clear x0 xl HXW
  go_loopw [12] (fun i wr => ∃ k : Nat, i = .int .i64 k ∧ k ≤ gs.length ∧ Hid (Below W.heap.size W wr) ∧ Hid ((⟨gg, ga, gv⟩ : Gav) ∈ gs ↔ (⟨gg, ga, gv⟩ : Gav) ∈ gs.drop k)) (fun i _ => gs.length - (intOf i).toNat)
  case atStart => exact ⟨0, rfl, Nat.zero_le _, Below.refl _ _, Iff.rfl⟩
  case round =>
    obtain ⟨k, rfl, hk, HW, HM⟩ := hrel
    by_cases hlt : k < gs.length
    · obtain ⟨b1, o1, hao, hbl, c0, c1, c2⟩ := (HSW.out.below HW.out).atG hlt
      cases hao
      have d1 : (k : Int) < (gs.length : Int) := by omega
      have wk : IntKind.i64.wrap ((k : Int) + 1) = (k : Int) + 1 := IntWalk.i64_in _ (by have := HL.out; omega)
      have HD : Hid ((⟨gg, ga, gv⟩ : Gav) ∈ gs ↔ gs[k] = ⟨gg, ga, gv⟩ ∨ (⟨gg, ga, gv⟩ : Gav) ∈ gs.drop (k + 1)) := by
        show _ ↔ _
        rw [HM.out, List.drop_eq_getElem_cons hlt, List.mem_cons]
        exact or_congr eq_comm Iff.rfl
      have HKL : Hid (k + 1 ≤ gs.length) := hlt
      generalize gs[k] = y at *
      clear HM hlt
      obtain ⟨yg, ya, yv⟩ := y
      simp only at c0 c1 c2
      have HYR := Lib.hid (HY.out.below HW.out HY.out.lt)
      go_upto_region 4 with fail
      refine wp_world ?_
      intro W1 hW
      have z1 : Box W1 wr.heap.size [.string yg, .string ya, .string yv] := by rw [hW]; exact Box.new wr [.string yg, .string ya, .string yv] _ _ rfl
      have hb1 : Below wr.heap.size wr W1 := by rw [hW]; exact (Below.refl _ wr).alloc (Nat.le_refl _) _
      clear hW c0 c1 c2 hbl
      have HW1 := Lib.hid (HW.out.trans (hb1.mono HW.out.size))
      have y2 := HYR.out.below hb1 HYR.out.lt
      have y0 := y2.cell 0 _ rfl
      have y1 := y2.cell 1 _ rfl
      have y3 := y2.cell 2 _ rfl
      have yl := y2.lt
      have z0 := z1.cell 0 _ rfl
      have z2 := z1.cell 1 _ rfl
      have z3 := z1.cell 2 _ rfl
      have zl := z1.lt
      clear y2 z1 hb1 HYR
      have he := eql_gavV yg ya yv gg ga gv
      by_cases hq : (⟨yg, ya, yv⟩ : Gav) = ⟨gg, ga, gv⟩
      · have he' : ∀ w, (binOp .eql 60 (.agg #[.string yg, .string ya, .string yv]) (.agg #[.string gg, .string ga, .string gv])).run Tryd.prog w = .ok (.bool true) w := fun w => by rw [he w, decide_eq_true hq]
        clear he
        have HIN : Hid ((⟨gg, ga, gv⟩ : Gav) ∈ gs) := HD.out.2 (.inl hq)
        clear hq HD
        go_wp2
        go_ret
        exact ⟨k, rfl, ⟨fun _ => HIN.out, fun _ => by omega⟩, HB.out.trans (HW1.out.mono HB.out.size)⟩
      · have he' : ∀ w, (binOp .eql 60 (.agg #[.string yg, .string ya, .string yv]) (.agg #[.string gg, .string ga, .string gv])).run Tryd.prog w = .ok (.bool false) w := fun w => by rw [he w, decide_eq_false hq]
        clear he
        have HN : Hid ((⟨gg, ga, gv⟩ : Gav) ∈ gs ↔ (⟨gg, ga, gv⟩ : Gav) ∈ gs.drop (k + 1)) := by
          show _ ↔ _
          rw [HD.out]
          exact ⟨fun h => h.resolve_left hq, .inr⟩
        clear hq HD
        go_wp2
        go_roundw
        case rel => exact ⟨k + 1, by first | rfl | go_num, HKL.out, HW1, HN⟩
        case measure => simp [intOf]; have := HKL.out; omega
    · obtain rfl : k = gs.length := by omega
      have d1 : ¬ (gs.length : Int) < (gs.length : Int) := by omega
      have HN : Hid (¬ (⟨gg, ga, gv⟩ : Gav) ∈ gs) := by show ¬ _; rw [HM.out, List.drop_length]; exact List.not_mem_nil
      clear HM
      go_wp2
      go_ret
      exact ⟨-1, rfl, ⟨fun h => absurd h (by decide), fun h => absurd h HN.out⟩, HB.out.trans (HW.out.mono HB.out.size)⟩

end Go.Proofs.YtecffghcpknmjaaDoor

/- What store.New, Has, Len, id do; keys that are structs; the conditions stand in the theorems. -/
namespace Go.Proofs.YtecffghcpknmjaaDoor
open Go Go.RowKit

theorem beq_str (a b : S) : (a.toList == b.toList) = decide (a = b) := by
  rw [Bool.eq_iff_iff, beq_iff_eq, decide_eq_true_iff, ByteArray.toList_eq, ByteArray.toList_eq]
  constructor
  · intro h
    obtain ⟨⟨x⟩⟩ := a
    obtain ⟨⟨y⟩⟩ := b
    simpa using h
  · rintro rfl; rfl
theorem std_gav : Tryd.prog.stoodInHeld 60 = false := by kernel_rfl
theorem std_id : Tryd.prog.stoodInHeld 24 = false := by kernel_rfl
theorem eq_kGav (a b : Gav) (w : World) : (Op.equal 60 (kGav a) (kGav b)).run Tryd.prog w = .ok (decide (a = b)) w := by
  have h := std_gav
  obtain ⟨a0, a1, a2⟩ := a
  obtain ⟨b0, b1, b2⟩ := b
  simp only [Op.equal, Op.maxDepth, kGav, gavC]
  by_cases h0 : a0 = b0 <;> by_cases h1 : a1 = b1 <;> by_cases h2 : a2 = b2 <;> simp [go_sem, h, h0, h1, h2, beq_str]
theorem eq_kId (a b : Id) (w : World) : (Op.equal 24 (kId a) (kId b)).run Tryd.prog w = .ok (decide (a = b)) w := by
  have h := std_id
  obtain ⟨a0, a1⟩ := a
  obtain ⟨b0, b1⟩ := b
  simp only [Op.equal, Op.maxDepth, kId, idC]
  by_cases h0 : a0 = b0 <;> by_cases h1 : a1 = b1 <;> simp [go_sem, h, h0, h1, beq_str]
theorem chk_str (b : Bool) (n : Nat) (s : S) (w : World) : (Instr.checkKey b (n + 1) 9 (.string s)).run Tryd.prog w = .ok () w := by
  simp [Instr.checkKey, run_underlying Tryd.underlying9]
theorem chk_gav (b : Bool) (k : Gav) (w : World) : (Instr.checkKey b 10000 60 (kGav k)).run Tryd.prog w = .ok () w := by
  obtain ⟨a0, a1, a2⟩ := k
  rw [show (10000 : Nat) = 9998 + 1 + 1 from rfl]
  generalize 9998 = n
  rw [Instr.checkKey]
  simp only [kGav, gavC, Sem.run_bind, run_underlying Tryd.underlying60, Result.andThen_ok]
  have hs := fun b n s w => chk_str b n s w
  simp [go_sem, hs]
theorem chk_id (b : Bool) (k : Id) (w : World) : (Instr.checkKey b 10000 24 (kId k)).run Tryd.prog w = .ok () w := by
  obtain ⟨a0, a1⟩ := k
  rw [show (10000 : Nat) = 9998 + 1 + 1 from rfl]
  generalize 9998 = n
  rw [Instr.checkKey]
  simp only [kId, idC, Sem.run_bind, run_underlying Tryd.underlying24, Result.andThen_ok]
  have hs := fun b n s w => chk_str b n s w
  simp [go_sem, hs]
theorem mk_gav : MKey Tryd.prog 60 kGav := ⟨⟨_, Tryd.underlying60⟩, eq_kGav, chk_gav⟩
theorem mk_id : MKey Tryd.prog 24 kId := ⟨⟨_, Tryd.underlying24⟩, eq_kId, chk_id⟩
theorem bytes_same (s : S) : (s == s) = true := by rw [beq_toListBytes]; simp
theorem same_gav (k : Gav) : Instr.sameBits 10000 (kGav k) (kGav k) = true := by
  rw [show (10000 : Nat) = 9998 + 1 + 1 from rfl]
  simp [Instr.sameBits, kGav, gavC, bytes_same]
theorem same_id (k : Id) : Instr.sameBits 10000 (kId k) (kId k) = true := by
  rw [show (10000 : Nat) = 9998 + 1 + 1 from rfl]
  simp [Instr.sameBits, kId, idC, bytes_same]
theorem zeroPtr (w : World) : (zeroValue 97).run Tryd.prog w = .ok (.pointer none) w := by kernel_rfl
theorem zeroRow (w : World) : (zeroValue 29).run Tryd.prog w = .ok nilS w := by kernel_rfl
theorem look_ent {w : World} {m : Nat} {L : List (MEnt Gav)} {c : Nat} (g : Gav) (h : MMap kGav w m L c) :
    (Instr.lookup 87 (.map (some m)) (.agg #[.string g.group, .string g.artifact, .string g.version]) false).run Tryd.prog w = .ok ((mGet L g).getD (.pointer none)) w :=
  run_lookupM mk_gav Tryd.underlying87 zeroPtr g h
theorem look_row {w : World} {m : Nat} {L : List (MEnt Id)} {c : Nat} (x : Id) (h : MMap kId w m L c) :
    (Instr.lookup 88 (.map (some m)) (.agg #[.string x.group, .string x.artifact]) false).run Tryd.prog w = .ok (rowV L x) w :=
  run_lookupM mk_id Tryd.underlying88 zeroRow x h
theorem set_ent {w : World} {m : Nat} {L : List (MEnt Gav)} {c : Nat} (g : Gav) (v : Value) (h : MMap kGav w m L c) :
    (Instr.mapUpdate 87 (.map (some m)) (.agg #[.string g.group, .string g.artifact, .string g.version]) v).run Tryd.prog w = .ok () (mSet kGav w m (mPut L g v c) (mCnt L g c)) :=
  run_updateM mk_gav same_gav Tryd.underlying87 g v h
theorem set_row {w : World} {m : Nat} {L : List (MEnt Id)} {c : Nat} (x : Id) (v : Value) (h : MMap kId w m L c) :
    (Instr.mapUpdate 88 (.map (some m)) (.agg #[.string x.group, .string x.artifact]) v).run Tryd.prog w = .ok () (mSet kId w m (mPut L x v c) (mCnt L x c)) :=
  run_updateM mk_id same_id Tryd.underlying88 x v h
theorem len_map {K : Type} {P : Program} {kc : K → Value} {w : World} {m : Nat} {L : List (MEnt K)} {c : Nat} {t k e : TypeId} (h : MMap kc w m L c) (ht : P.underlying t = some (.map k e)) (ty : TypeId) : (Builtin.len_ #[t] ty #[.map (some m)]).run P w = .ok (.int .i64 L.length) w := by
  simp [Builtin.len_, run_underlying ht, MapKept.run_getObj_map (show w.heap[m]? = _ from h), goInt, Result.andThen]
def NewOut (w : World) (e : Ending) (w' : World) : Prop := ∃ b F, e = .returned (ptr b) ∧ StoreAt F w' b [] 0 0 ∧ (∀ k, F k → w.heap.size ≤ k) ∧ Below w.heap.size w w'
set_option maxRecDepth 100000 in
theorem new_any (w : World) : Calls Tryd.prog 25 #[] w (NewOut w) := by
  have hmm := @run_makeMap Tryd.prog
  go_enter Tryd.func25, Tryd.ntmps25
  go_wp2_with fail
  go_ret
  have e0 : MMap kGav (w.alloc (.map #[] 0)) w.heap.size [] 0 := heap_alloc_new w _
  have e1 : MMap kId ((w.alloc (.map #[] 0)).alloc (.map #[] 0)) (w.heap.size + 1) [] 0 := by
    have := heap_alloc_new (w.alloc (.map #[] 0)) (.map #[] 0)
    simpa [MMap] using this
  have hb : Below w.heap.size w (((w.alloc (.map #[] 0)).alloc (.map #[] 0)).alloc (.cells #[.map (some w.heap.size), .map (some (w.heap.size + 1)), .int .i64 0, .int .i64 0] 95)) :=
    (((Below.refl _ _).alloc (Nat.le_refl _) _).alloc (by simp) _).alloc (by simp; omega) _
  refine ⟨w.heap.size + 2, fun k => w.heap.size ≤ k ∧ k < w.heap.size + 3, rfl, ⟨w.heap.size, w.heap.size + 1, [], 0, [], 0, ?_⟩, fun k h => h.1, hb⟩
  refine ⟨Box.new _ [.map (some w.heap.size), .map (some (w.heap.size + 1)), .int .i64 0, .int .i64 0] _ _ (by simp), ?_, ?_, rfl, by simp, fun x => .inl ⟨rfl, rfl⟩, ?_, ?_, ⟨⟨by omega, by omega⟩, ⟨by omega, by omega⟩, ⟨by omega, by omega⟩, by simp⟩, ?_, ⟨by omega, by omega, by omega, by simp⟩, by simp, by simp⟩
  · exact (e0.below ((Below.refl _ _).alloc (Nat.le_refl _) _) e0.lt).below ((Below.refl _ _).alloc (Nat.le_refl _) _) (by simp; omega)
  · exact e1.below ((Below.refl _ _).alloc (Nat.le_refl _) _) e1.lt
  · intro x v k h; cases h
  · intro x y v u k h; cases h
  · intro k h; simp; omega
def HasOut (b : Bool) (w : World) (e : Ending) (w' : World) : Prop := e = .returned (.bool b) ∧ Below w.heap.size w w'
set_option maxRecDepth 100000 in
theorem has_any (g : Gav) (w : World) {F : Nat → Prop} {b : Nat} {es : List (SEnt × Nat)} {r a : Int} (h : StoreAt F w b es r a) :
    Calls Tryd.prog 54 #[ptr b, .agg #[.string g.group, .string g.artifact, .string g.version]] w (HasOut (hasG es g) w) := by
  obtain ⟨me, mv, L, cl, V, cv, h⟩ := h
  have hgt := h.get g
  have hlt := h.box.lt
  have HS := Lib.hid h
  clear h
  unfold ptr
  go_enter Tryd.func54, Tryd.ntmps54
  go_upto_region 1 with fail
  refine wp_world ?_
  intro W hW
  have hx : Box W w.heap.size [.string g.group, .string g.artifact, .string g.version] := by rw [hW]; exact Box.new w (gavC g) _ _ rfl
  have hb : Below w.heap.size w W := by rw [hW]; exact (Below.refl _ _).alloc (Nat.le_refl _) _
  clear hW
  have HX := Lib.hid hx
  have HB := Lib.hid hb
  have x0 := hx.cell 0 _ rfl
  have x1 := hx.cell 1 _ rfl
  have x2 := hx.cell 2 _ rfl
  have lx := hx.lt
  have b0 := (HS.out.box.below hb hlt).cell 0 _ rfl
  have lb := (HS.out.box.below hb hlt).lt
  have hm := HS.out.ents.below hb HS.out.ents.lt
  have hl : ∀ x : Later W, (Instr.lookup 87 (.map (some me)) (.agg #[.string g.group, .string g.artifact, .string g.version]) false).run Tryd.prog x.at_ = .ok ((mGet L g).getD (.pointer none)) x.at_ := fun x => look_ent g (hm.below x.below hm.lt)
  clear hx hb hm HX
  have hLC := @Later.cellsS W
  rw [hgt] at hl
  clear hgt
  cases hf : es.find? fun e => decide (g = e.1.gav) with
  | none =>
    rw [hf] at hl
    simp only [Option.map_none, Option.getD_none] at hl
    have HG : Hid (hasG es g = false) := by show _ = _; unfold hasG; rw [hf]; rfl
    clear hf
    refine region_laterS (by kernel_rfl) (by kernel_rfl) ?_
    repeat (go_big_quiet_step (fail))
    refine wpQuiet_nil ?_
    rintro _ ⟨nx, rfl⟩
    have HN := Lib.hid nx.below
    generalize nx.at_ = wn at *
    clear hl hLC x0 x1 x2 lx b0 lb
    go_wp2
    go_ret
    exact ⟨by rw [HG.out]; rfl, HB.out.trans (HN.out.mono HB.out.size)⟩
  | some e =>
    rw [hf] at hl
    simp only [Option.map_some, Option.getD_some, ptr] at hl
    have HG : Hid (hasG es g = true) := by show _ = _; unfold hasG; rw [hf]; rfl
    clear hf
    refine region_laterS (by kernel_rfl) (by kernel_rfl) ?_
    repeat (go_big_quiet_step (fail))
    refine wpQuiet_nil ?_
    rintro _ ⟨nx, rfl⟩
    have HN := Lib.hid nx.below
    generalize nx.at_ = wn at *
    clear hl hLC x0 x1 x2 lx b0 lb
    go_wp2
    go_ret
    exact ⟨by rw [HG.out]; rfl, HB.out.trans (HN.out.mono HB.out.size)⟩
set_option maxRecDepth 100000 in
theorem id_any (g : Gav) (w : World) : Calls Tryd.prog 55 #[.agg #[.string g.group, .string g.artifact, .string g.version]] w fun e w' => e = .returned (.agg #[.string g.group, .string g.artifact]) ∧ Below w.heap.size w w' := by
  go_enter Tryd.func55, Tryd.ntmps55
  go_wp2_with fail
  refine bodyPost_ret (v := .agg #[.string g.group, .string g.artifact]) (by simp [results, Tryd.results55, go_sem]) rfl ?_
  refine ⟨rfl, ?_⟩
  exact ((Below.refl _ _).alloc (Nat.le_refl _) _).alloc (by simp) _

end Go.Proofs.YtecffghcpknmjaaDoor
