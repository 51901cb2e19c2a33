/- The walk of the document's Parts; the conditions stand in the theorem. -/
import Derived.Test.YtecffghcpknmjaaGreatDoorV9

namespace Go.Proofs.YtecffghcpknmjaaGreatDoor
open Go Go.RowKit

def strAt (w : World) (b o : Nat) : Nat := match w.cell? ⟨b, o, none⟩ with
  | some (.string x) => x.size
  | _ => 0
theorem strAt_of {w : World} {b o : Nat} {x : S} (h : w.cell? ⟨b, o, none⟩ = some (.string x)) : strAt w b o = x.size := by unfold strAt; rw [h]
theorem set_same {α : Type} {l : List α} {k : Nat} {x : α} (h : l[k]? = some x) : l.set k x = l := by
  obtain ⟨hk, rfl⟩ := List.getElem?_eq_some_iff.1 h
  exact List.set_getElem_self hk
theorem v_cell (w : World) (x : Value) (T : TypeId) (fz : Nat × Nat) : (w.alloc (.cells #[x] T fz)).cell? ⟨w.heap.size, 0, none⟩ = some x := by
  rw [cell_of_row _ w.heap.size 0 _ T fz (heap_alloc_new w _)]; rfl
theorem v_conv (w : World) (H : Nat) (c : UInt8) (hc : w.cell? ⟨H, 0, none⟩ = some (.int .u8 (c.toNat : Nat))) : (convert 72 9 (.slice (some ⟨H, 0, none⟩) 1 1)).run Tryz.prog w = .ok (.string (bs [c])) w :=
  run_convert_bytes_back (P := Tryz.prog) w 72 9 5 ⟨H, 0, none⟩ 1 [c] Tryz.underlying72 Tryz.underlying5 Tryz.underlying9 (fun j hj => by
    obtain rfl : j = 0 := by simp at hj; omega
    simpa [Lib.byteCells, Addr.add] using hc)
theorem openV_at {p0 : PartV} {M : List PartV} {i : Nat} {e : PartV} (hi : 1 ≤ i) (he : (p0 :: M)[i]? = some e) : openV M (i - 1) = (e.text.isEmpty && (decide (i + 1 = M.length + 1) || (((p0 :: M)[i + 1]?).map (·.hyphen)).getD false)) := by
  obtain ⟨j, rfl⟩ : ∃ j, i = j + 1 := ⟨i - 1, by omega⟩
  have h1 : M[j]? = some e := by simpa using he
  unfold openV
  rw [Nat.add_sub_cancel, h1]
  simp
theorem strike_eq {p0 : PartV} {M : List PartV} {i : Nat} (hi : 1 ≤ i) : ([] ++ (p0 :: M).take i) ++ (p0 :: M).drop (i + 1) = p0 :: M.eraseIdx (i - 1) := by
  obtain ⟨j, rfl⟩ : ∃ j, i = j + 1 := ⟨i - 1, by omega⟩
  rw [List.eraseIdx_eq_take_drop_succ]
  simp
theorem openV_out {M : List PartV} {j : Nat} (h : M.length ≤ j) : openV M j = false := by
  unfold openV
  rw [List.getElem?_eq_none h]
def lenV : Value → Nat
  | .slice _ n _ => n
  | _ => 0
def boolN : Value → Nat
  | .bool true => 1
  | _ => 0
theorem SliceOf.dropW {α : Type} {n : Nat} {C : α → List Value} {w : World} {b o len cap : Nat} {l : List α} (h : SliceOf n C w (.slice (some ⟨b, o, none⟩) len cap) l) {k : Nat} (hk : k ≤ l.length) : SliceOf n C w (.slice (some ⟨b, o + k * n, none⟩) (len - k) (cap - k)) (l.drop k) := by
  obtain ⟨ao', cap', h1, h2, hm, h3, h4⟩ := h
  cases h1
  refine ⟨_, _, by rw [List.length_drop], by rw [List.length_drop]; omega, by omega, by simp, fun i x hx => ?_⟩
  rw [List.getElem?_drop] at hx
  obtain ⟨b', o', e, hlt, hc⟩ := h4 _ _ hx
  cases e
  refine ⟨b, o + k * n, rfl, hlt, fun j u hu => ?_⟩
  have := hc j u hu
  rw [Nat.add_mul] at this
  rw [Nat.add_assoc o]; exact this
/-- Where a cut slice begins: the walk's form, taken as it stands. -/
def cutW (a : Option Addr) (l m s : Nat) : Option Addr := if m = l then a else a.map (·.add (l * s))
theorem sliced_cutW (a : Option Addr) (l h m s : Nat) : sliced a l h m s = .slice (cutW a l m s) (h - l) (m - l) := rfl
theorem cutW_zero (a : Option Addr) (m s : Nat) : cutW a 0 m s = a := by
  unfold cutW
  split
  · rfl
  · cases a with
    | none => rfl
    | some x => simp [Addr.add]
theorem SliceOf.cutW {α : Type} {n : Nat} {C : α → List Value} {w : World} {b o len cap : Nat} {l : List α} (h : SliceOf n C w (.slice (some ⟨b, o, none⟩) len cap) l) {k : Nat} (hk : k ≤ l.length) : SliceOf n C w (.slice (cutW (some ⟨b, o, none⟩) k cap n) (len - k) (cap - k)) (l.drop k) := by
  unfold Go.Proofs.YtecffghcpknmjaaGreatDoor.cutW
  by_cases hc : cap = k
  · rw [if_pos hc]
    obtain ⟨ao', cap', h1, h2, hm, h3, h4⟩ := h
    cases h1
    have hl : l.length = k := by omega
    rw [List.drop_of_length_le (by omega)]
    exact ⟨_, _, by rw [List.length_nil]; congr 1; omega, by simp, by omega, by simp, fun i x hx => by simp at hx⟩
  · rw [if_neg hc]
    rw [Option.map_some, Addr.add_lit]
    exact h.dropW hk
theorem own_belowW {α : Type} {B : Nat} {w2 w8 w9 : World} {E n : Nat} {C : α → List Value} {v : Value} {l : List α} (h : Below B w2 w8) (ho : Owns B E n C w8 v l) (hg : w8.grownBy w9 v.ownBlock) (hB : B ≤ w8.heap.size) : Below B w2 w9 := h.grown hg hB (fun j hj => (ho.lt j hj).1)
theorem SliceOf.takeW {α : Type} {n : Nat} {C : α → List Value} {w : World} {ao : Option Addr} {len cap : Nat} {l : List α} (h : SliceOf n C w (.slice ao len cap) l) {k : Nat} (hk : k ≤ l.length) : SliceOf n C w (.slice ao k cap) (l.take k) := by
  obtain ⟨ao', cap', h1, h2, hm, h3, h4⟩ := h
  cases h1
  refine ⟨ao, cap, by rw [List.length_take, Nat.min_eq_left hk], by rw [List.length_take]; omega, hm, h3, fun i x hx => h4 i x ?_⟩
  rw [List.getElem?_take] at hx
  split at hx
  · exact hx
  · cases hx
theorem SliceOf.capW {α : Type} {n : Nat} {C : α → List Value} {w : World} {ao : Option Addr} {len cap : Nat} {l : List α} (h : SliceOf n C w (.slice ao len cap) l) : l.length ≤ cap ∧ len = l.length ∧ cap ≤ maxLen := by
  obtain ⟨ao', cap', h1, h2, hm, h3, h4⟩ := h
  cases h1
  exact ⟨h2, rfl, hm⟩
attribute [local go_sem ↓] sliced_cutW cutW_zero in
set_option maxRecDepth 100000 in
set_option maxHeartbeats 32000000 in
theorem refParts_any (s : S) (w : World) (hs : s.size ≤ 900000) : Calls Tryz.prog 37 #[.string s] w fun e w' => ∃ v, e = .returned v ∧ Owns w.heap.size 87 3 docC w' v (partsV s.data.toList) ∧ Below w.heap.size w w' := by
  obtain ⟨T, hT⟩ : ∃ T, T = s.data.toList.map lowV := ⟨_, rfl⟩
  have HTL : Hid (T.length = s.size) := by show _ = _; rw [hT, List.length_map, size_data]
  have HRW : Hid (rawV s.data.toList = (cutGo T [] false).map partV) := by show _ = _; rw [hT]; rfl
  have HTG : Hid (∀ k (hk : k < s.size), T[k]'(by rw [HTL.out]; exact hk) = lowV s[k]) := fun k hk => by subst hT; exact low_get s k hk
  have HTX : Hid (∀ p ∈ cutGo T [] false, p.text.length ≤ 1000000) := fun p hp => by
    have := cutGo_len _ _ _ p hp
    have h2 := HTL.out
    simp at this; omega
  have HCN : Hid ((cutGo T [] false).length ≤ 900001) := by
    have := cutGo_count T [] false
    have h2 := HTL.out
    show _ ≤ _; omega
  clear hT
  go_enter Tryz.func37, Tryz.ntmps37
  go_upto_region 4 with fail
  refine wp_world ?_
  intro W hW
  obtain ⟨B, hB⟩ : ∃ B, w.heap.size = B := ⟨_, rfl⟩
  have HD0 : Hid (DocAt B w W (.slice none 0 0) (.slice (some ⟨B, 0, none⟩) 0 0) [] [] [.bool false, .bool false, .string ⟨#[]⟩]) := by
    show DocAt _ _ _ _ _ _ _ _
    rw [hW]
    subst hB
    exact ⟨rfl, ((Below.refl _ w).alloc (Nat.le_refl _) _).alloc (by simp) _, Box.new _ _ _ _ (by simp), Owns.nil, (Owns.empty rfl (Nat.le_refl _)).alloc _, fun j hj => by cases hj; exact Nat.ne_of_lt (Nat.lt_succ_self _), fun j hj => by cases hj⟩
  rw [hB]
  have HBW := Lib.hid hB
  clear hW hB
  go_wp2
  go_loopw [3, 4, 6, 7] (fun l n d i wr => ∃ (k f dg ll nl : Nat) (P : List Pc) (hy : Bool) (lo no : Option Addr) (lc nc : Nat) (t : Bs), l = .slice lo ll lc ∧ n = .slice no nl nc ∧ d = .int .i64 dg ∧ i = .int .i64 k ∧ Hid (CutAt T k f P hy) ∧ Hid (DocAt B w wr (.slice lo ll lc) (.slice no nl nc) (P.map rawP) (P.map (·.close)) [.bool false, .bool hy, .string (bs t)]) ∧ Hid (dg = cntD t) ∧ Hid (t = midB T f k)) (fun _ _ _ i _ => s.size + 1 - (intOf i).toNat)
  case atStart => exact ⟨0, 0, 0, 0, 0, [], false, none, _, 0, _, [], rfl, rfl, rfl, rfl, CutAt.start _, HD0.out, rfl, (midB_nil T 0).symm⟩
  case round =>
    clear HD0
    obtain ⟨k, f, dg, ll, nl, P, hy, lo, no, lc, nc, t, rfl, rfl, rfl, rfl, HC, HD, HG, HT⟩ := hrel
    have hle := HC.out.le
    rw [HTL.out] at hle
    have HSZ := Lib.hid HD.out.size
    by_cases hk : k ≤ s.size
    · have HLE : Hid ((P.map rawP).length ≤ 1000000 ∧ (P.map (·.close)).length ≤ 1000000) := by have := hle.1; rw [List.length_map, List.length_map]; exact ⟨by omega, by omega⟩
      have hfk : f ≤ k := hle.2.2 hk
      have HTN : Hid (t.length ≤ 1000000) := by
        show _ ≤ _
        rw [HT.out]; unfold midB; rw [List.length_take, List.length_drop, HTL.out]; omega
      have hi1 : IntKind.i64.wrap ((k : Int) + 1) = (k : Int) + 1 := IntWalk.i64_in _ (by omega)
      obtain ⟨X, hX⟩ : ∃ X, X = bs t := ⟨_, rfl⟩
      have hXs : X.size = t.length := by rw [hX, bs_size]
      have HXE := Lib.hid hX
      have hdw : decide ((dg : Int) < (X.size : Int)) = !isNum t := by rw [← cntD_lt, hXs, ← show dg = cntD t from HG.out]; simp
      have hdwN : decide (dg < X.size) = !isNum t := by rw [← cntD_lt, hXs, ← show dg = cntD t from HG.out]
      rw [← hX] at HD
      clear hX hXs
      have bx := HD.out.box
      have c0 := bx.cell 0 _ rfl
      have c1 := bx.cell 1 _ rfl
      have c2 := bx.cell 2 _ rfl
      have cl := bx.lt
      clear bx
      by_cases hkn : k = s.size
      · as_aux_lemma =>
        have e1 : ((k : Int) == (s.size : Int)) = true := by rw [beq_iff_eq]; omega
        have e1' : (k == s.size) = true := by rw [beq_iff_eq]; omega
        have d1 : decide ((k : Int) < (s.size : Int)) = false := decide_eq_false (by omega)
        have d1' : decide (k < s.size) = false := decide_eq_false (by omega)
        have HF := Lib.hid (HC.out.fin (by rw [HTL.out]; exact hkn)).2
        rw [← HT.out] at HF
        have HKN := Lib.hid hkn
        clear hkn
        go_upto_region 9 with fail
        refine region_laterS (by kernel_rfl) (by kernel_rfl) ?_
        repeat (go_big_quiet_step (fail))
        refine wpQuiet_nil ?_
        rintro _ ⟨nx, rfl⟩
        have HD := Lib.hid (HD.out.later nx.below)
        have HSZ := Lib.hid HD.out.size
        generalize nx.at_ = wn at *
        clear c0 c1 c2 cl
        have c0 := HD.out.box.cell 0 _ rfl
        have f0 := HD.out.box.free 0
        have c1 := HD.out.box.cell 1 _ rfl
        have c2 := HD.out.box.cell 2 _ rfl
        have cl := HD.out.box.lt
        go_upto_region 12 with fail
        refine wp_world ?_
        intro W1 hW1
        have HD1 : Hid (DocAt B w W1 (.slice lo ll lc) (.slice no nl nc) (P.map rawP) (P.map (·.close)) [.bool (!isNum t), .bool hy, .string X]) := by
          rw [hW1]
          exact HD.out.boxed (HD.out.box.setOne rfl (by simp)) (setCell_grown _ _ _ _)
        clear hW1 c0 c1 c2 cl f0 hdw hdwN
        have hs1 := HD1.out.size
        have k0 := HD1.out.box.cell 0 _ rfl
        have k1 := HD1.out.box.cell 1 _ rfl
        have k2 := HD1.out.box.cell 2 _ rfl
        have kl := HD1.out.box.lt
        have HNW : Hid (SliceOf 3 docC (W1.alloc (.cells #[.bool (!isNum t), .bool hy, .string X] 87)) (.slice (some ⟨W1.heap.size, 0, none⟩) 1 1) [rawP (⟨t, hy, false⟩ : Pc)]) := by
          have := sliceLit docC_len W1 [rawP (⟨t, hy, false⟩ : Pc)] 87 W1.heap.size 1 rfl rfl (by simp [maxLen])
          show SliceOf _ _ _ _ _
          rw [HXE.out]
          simpa [docC, rawP] using this
        go_upto_region 13 with (at_builtin; go_loud (refine wpList_append_slice _ rfl _ _ 84 rfl (B + 2) 87 Tryz.underlying84 info_dp rfl (by decide) docC_len (.slice lo ll lc) (P.map rawP) rfl (HD1.out.l.alloc _) _ [rawP (⟨t, hy, false⟩ : Pc)] rfl HNW.out (docC_ones _) (by have := HLE.out.1; simp only [List.length_singleton]; omega) (by decide) (by simp; omega) ?_); intro v9 w9 hown hgrow hloc; obtain ⟨lo9, lc9, hv9⟩ := hown.shape; subst hv9)
        have HD2 := Lib.hid ((HD1.out.later ((Below.refl _ W1).alloc (Nat.le_refl _) _)).putL hown hgrow hloc)
        clear hown hgrow hloc HNW k0 k1 k2 kl hs1 HD1
        have hs2 := HD2.out.size
        have HNB : Hid (SliceOf 1 boolC (w9.alloc (.cells #[.bool false] 4)) (.slice (some ⟨w9.heap.size, 0, none⟩) 1 1) [false]) := by
          show SliceOf _ _ _ _ _
          simpa [boolC] using sliceLit boolC_len w9 [false] 4 w9.heap.size 1 rfl rfl (by simp [maxLen])
        go_upto_region 14 with (at_builtin; go_loud (refine wpList_append_slice _ rfl _ _ 140 rfl B 4 Tryz.underlying140 info_bl rfl (by decide) boolC_len (.slice no nl nc) (P.map (·.close)) rfl (HD2.out.n.alloc _) _ [false] rfl HNB.out (boolC_ones _) (by have := HLE.out.2; simp only [List.length_singleton]; omega) (by decide) (by simp; omega) ?_); intro v8 w8 hown hgrow hloc; obtain ⟨no8, nc8, hv8⟩ := hown.shape; subst hv8)
        have HD3 := Lib.hid ((HD2.out.later ((Below.refl _ w9).alloc (Nat.le_refl _) _)).putN hown hgrow hloc)
        clear hown hgrow hloc HNB hs2 HD2
        have hs3 := HD3.out.size
        have z0 := HD3.out.box.cell 0 _ rfl
        have zl := HD3.out.box.lt
        go_upto_region 15 with ((with_reducible show wpList _ _ _ (Oper.mk none (Op.store 87 (.tmp 5) (.tmp 89)) _ _ _ _ :: _) _ _); refine wpList_store_box rfl 87 (.tmp 5) (.tmp 89) rfl (B + 1) _ [.bool false, .bool false, .string ⟨#[]⟩] rfl rfl HD3.out.box rfl (by kernel_rfl) (by simp [Value.oneCell']) ?_; intro W7 v7 hg7)
        have HD7 : Hid (DocAt B w W7 (.slice lo9 (P.length + 1) lc9) (.slice no8 (P.length + 1) nc8) ((P ++ [(⟨t, hy, false⟩ : Pc)]).map rawP) ((P ++ [(⟨t, hy, false⟩ : Pc)]).map (·.close)) [.bool false, .bool false, .string ⟨#[]⟩]) := by
          have := HD3.out.boxed v7 hg7
          have e1 : (P.map rawP ++ [rawP (⟨t, hy, false⟩ : Pc)]).length = P.length + 1 := by simp
          have e2 : (P.map (·.close) ++ [false]).length = P.length + 1 := by simp
          rw [e1, e2] at this
          show DocAt _ _ _ _ _ _ _ _
          rw [List.map_append, List.map_append]
          exact this
        clear v7 hg7 HD3 z0 zl hs3
        have hs7 := HD7.out.size
        go_wp2
        go_roundw
        case rel => exact ⟨k + 1, k + 1, 0, _, _, _, false, lo9, no8, lc9, nc8, [], rfl, rfl, by go_num, by go_num, HF.out _ _, HD7.out, rfl, (midB_nil _ _).symm⟩
        case measure => simp [intOf]; omega
      · have hkl : k < s.size := by omega
        have hkT : k < T.length := by rw [HTL.out]; exact hkl
        have hkb := HTG.out k hkl
        have e1 : ((k : Int) == (s.size : Int)) = false := by rw [beq_eq_false_iff_ne]; omega
        have e1' : (k == s.size) = false := by rw [beq_eq_false_iff_ne]; omega
        have d1 : decide ((k : Int) < (s.size : Int)) = true := decide_eq_true (by omega)
        have d1' : decide (k < s.size) = true := decide_eq_true hkl
        cases hm : markV T[k] with
        | true =>
          have HN0 := HC.out.mark hkT hm
          rw [← HT.out, hkb, low45] at HN0
          rw [hkb, markV_low] at hm
          by_cases hc46 : s[k].toNat = 46
          · as_aux_lemma =>
            have q46 : ((s[k].toNat : Int) == 46) = true := by rw [beq_iff_eq]; omega
            have q45 : ((s[k].toNat : Int) == 45) = false := by rw [beq_eq_false_iff_ne]; omega
            rw [show (s[k].toNat == 45) = false by rw [beq_eq_false_iff_ne]; omega] at HN0
            have HN := Lib.hid HN0
            clear HN0 hm hc46
            go_upto_region 9 with fail
            refine region_laterS (by kernel_rfl) (by kernel_rfl) ?_
            repeat (go_big_quiet_step (fail))
            refine wpQuiet_nil ?_
            rintro _ ⟨nx, rfl⟩
            have HD := Lib.hid (HD.out.later nx.below)
            have HSZ := Lib.hid HD.out.size
            generalize nx.at_ = wn at *
            clear c0 c1 c2 cl
            have c0 := HD.out.box.cell 0 _ rfl
            have f0 := HD.out.box.free 0
            have c1 := HD.out.box.cell 1 _ rfl
            have c2 := HD.out.box.cell 2 _ rfl
            have cl := HD.out.box.lt
            go_upto_region 12 with fail
            refine wp_world ?_
            intro W1 hW1
            have HD1 : Hid (DocAt B w W1 (.slice lo ll lc) (.slice no nl nc) (P.map rawP) (P.map (·.close)) [.bool (!isNum t), .bool hy, .string X]) := by
              rw [hW1]
              exact HD.out.boxed (HD.out.box.setOne rfl (by simp)) (setCell_grown _ _ _ _)
            clear hW1 c0 c1 c2 cl f0 hdw hdwN
            have hs1 := HD1.out.size
            have k0 := HD1.out.box.cell 0 _ rfl
            have k1 := HD1.out.box.cell 1 _ rfl
            have k2 := HD1.out.box.cell 2 _ rfl
            have kl := HD1.out.box.lt
            have HNW : Hid (SliceOf 3 docC (W1.alloc (.cells #[.bool (!isNum t), .bool hy, .string X] 87)) (.slice (some ⟨W1.heap.size, 0, none⟩) 1 1) [rawP (⟨t, hy, false⟩ : Pc)]) := by
              have := sliceLit docC_len W1 [rawP (⟨t, hy, false⟩ : Pc)] 87 W1.heap.size 1 rfl rfl (by simp [maxLen])
              show SliceOf _ _ _ _ _
              rw [HXE.out]
              simpa [docC, rawP] using this
            go_upto_region 13 with (at_builtin; go_loud (refine wpList_append_slice _ rfl _ _ 84 rfl (B + 2) 87 Tryz.underlying84 info_dp rfl (by decide) docC_len (.slice lo ll lc) (P.map rawP) rfl (HD1.out.l.alloc _) _ [rawP (⟨t, hy, false⟩ : Pc)] rfl HNW.out (docC_ones _) (by have := HLE.out.1; simp only [List.length_singleton]; omega) (by decide) (by simp; omega) ?_); intro v9 w9 hown hgrow hloc; obtain ⟨lo9, lc9, hv9⟩ := hown.shape; subst hv9)
            have HD2 := Lib.hid ((HD1.out.later ((Below.refl _ W1).alloc (Nat.le_refl _) _)).putL hown hgrow hloc)
            clear hown hgrow hloc HNW k0 k1 k2 kl hs1 HD1
            have hs2 := HD2.out.size
            have HNB : Hid (SliceOf 1 boolC (w9.alloc (.cells #[.bool false] 4)) (.slice (some ⟨w9.heap.size, 0, none⟩) 1 1) [false]) := by
              show SliceOf _ _ _ _ _
              simpa [boolC] using sliceLit boolC_len w9 [false] 4 w9.heap.size 1 rfl rfl (by simp [maxLen])
            go_upto_region 14 with (at_builtin; go_loud (refine wpList_append_slice _ rfl _ _ 140 rfl B 4 Tryz.underlying140 info_bl rfl (by decide) boolC_len (.slice no nl nc) (P.map (·.close)) rfl (HD2.out.n.alloc _) _ [false] rfl HNB.out (boolC_ones _) (by have := HLE.out.2; simp only [List.length_singleton]; omega) (by decide) (by simp; omega) ?_); intro v8 w8 hown hgrow hloc; obtain ⟨no8, nc8, hv8⟩ := hown.shape; subst hv8)
            have HD3 := Lib.hid ((HD2.out.later ((Below.refl _ w9).alloc (Nat.le_refl _) _)).putN hown hgrow hloc)
            clear hown hgrow hloc HNB hs2 HD2
            have hs3 := HD3.out.size
            have z0 := HD3.out.box.cell 0 _ rfl
            have zl := HD3.out.box.lt
            go_upto_region 15 with ((with_reducible show wpList _ _ _ (Oper.mk none (Op.store 87 (.tmp 5) (.tmp 89)) _ _ _ _ :: _) _ _); refine wpList_store_box rfl 87 (.tmp 5) (.tmp 89) rfl (B + 1) _ [.bool false, .bool false, .string ⟨#[]⟩] rfl rfl HD3.out.box rfl (by kernel_rfl) (by simp [Value.oneCell']) ?_; intro W7 v7 hg7)
            have HD7 : Hid (DocAt B w W7 (.slice lo9 (P.length + 1) lc9) (.slice no8 (P.length + 1) nc8) ((P ++ [(⟨t, hy, false⟩ : Pc)]).map rawP) ((P ++ [(⟨t, hy, false⟩ : Pc)]).map (·.close)) [.bool false, .bool false, .string ⟨#[]⟩]) := by
              have := HD3.out.boxed v7 hg7
              have e1 : (P.map rawP ++ [rawP (⟨t, hy, false⟩ : Pc)]).length = P.length + 1 := by simp
              have e2 : (P.map (·.close) ++ [false]).length = P.length + 1 := by simp
              rw [e1, e2] at this
              show DocAt _ _ _ _ _ _ _ _
              rw [List.map_append, List.map_append]
              exact this
            clear v7 hg7 HD3 z0 zl hs3
            have hs7 := HD7.out.size
            go_wp2
            go_roundw
            case rel => exact ⟨k + 1, k + 1, 0, _, _, _, false, lo9, no8, lc9, nc8, [], rfl, rfl, by go_num, by go_num, HN.out, HD7.out, rfl, (midB_nil _ _).symm⟩
            case measure => simp [intOf]; omega
          · as_aux_lemma =>
            have q46 : ((s[k].toNat : Int) == 46) = false := by rw [beq_eq_false_iff_ne]; omega
            have h45 : s[k].toNat = 45 := by simp [markV] at hm; omega
            have q45 : ((s[k].toNat : Int) == 45) = true := by rw [beq_iff_eq]; omega
            rw [show (s[k].toNat == 45) = true by rw [beq_iff_eq]; exact h45] at HN0
            have HN := Lib.hid HN0
            clear HN0 hm hc46 h45
            go_upto_region 9 with fail
            refine region_laterS (by kernel_rfl) (by kernel_rfl) ?_
            repeat (go_big_quiet_step (fail))
            refine wpQuiet_nil ?_
            rintro _ ⟨nx, rfl⟩
            have HD := Lib.hid (HD.out.later nx.below)
            have HSZ := Lib.hid HD.out.size
            generalize nx.at_ = wn at *
            clear c0 c1 c2 cl
            have c0 := HD.out.box.cell 0 _ rfl
            have f0 := HD.out.box.free 0
            have c1 := HD.out.box.cell 1 _ rfl
            have c2 := HD.out.box.cell 2 _ rfl
            have cl := HD.out.box.lt
            go_upto_region 12 with fail
            refine wp_world ?_
            intro W1 hW1
            have HD1 : Hid (DocAt B w W1 (.slice lo ll lc) (.slice no nl nc) (P.map rawP) (P.map (·.close)) [.bool (!isNum t), .bool hy, .string X]) := by
              rw [hW1]
              exact HD.out.boxed (HD.out.box.setOne rfl (by simp)) (setCell_grown _ _ _ _)
            clear hW1 c0 c1 c2 cl f0 hdw hdwN
            have hs1 := HD1.out.size
            have k0 := HD1.out.box.cell 0 _ rfl
            have k1 := HD1.out.box.cell 1 _ rfl
            have k2 := HD1.out.box.cell 2 _ rfl
            have kl := HD1.out.box.lt
            have HNW : Hid (SliceOf 3 docC (W1.alloc (.cells #[.bool (!isNum t), .bool hy, .string X] 87)) (.slice (some ⟨W1.heap.size, 0, none⟩) 1 1) [rawP (⟨t, hy, false⟩ : Pc)]) := by
              have := sliceLit docC_len W1 [rawP (⟨t, hy, false⟩ : Pc)] 87 W1.heap.size 1 rfl rfl (by simp [maxLen])
              show SliceOf _ _ _ _ _
              rw [HXE.out]
              simpa [docC, rawP] using this
            go_upto_region 13 with (at_builtin; go_loud (refine wpList_append_slice _ rfl _ _ 84 rfl (B + 2) 87 Tryz.underlying84 info_dp rfl (by decide) docC_len (.slice lo ll lc) (P.map rawP) rfl (HD1.out.l.alloc _) _ [rawP (⟨t, hy, false⟩ : Pc)] rfl HNW.out (docC_ones _) (by have := HLE.out.1; simp only [List.length_singleton]; omega) (by decide) (by simp; omega) ?_); intro v9 w9 hown hgrow hloc; obtain ⟨lo9, lc9, hv9⟩ := hown.shape; subst hv9)
            have HD2 := Lib.hid ((HD1.out.later ((Below.refl _ W1).alloc (Nat.le_refl _) _)).putL hown hgrow hloc)
            clear hown hgrow hloc HNW k0 k1 k2 kl hs1 HD1
            have hs2 := HD2.out.size
            have HNB : Hid (SliceOf 1 boolC (w9.alloc (.cells #[.bool false] 4)) (.slice (some ⟨w9.heap.size, 0, none⟩) 1 1) [false]) := by
              show SliceOf _ _ _ _ _
              simpa [boolC] using sliceLit boolC_len w9 [false] 4 w9.heap.size 1 rfl rfl (by simp [maxLen])
            go_upto_region 14 with (at_builtin; go_loud (refine wpList_append_slice _ rfl _ _ 140 rfl B 4 Tryz.underlying140 info_bl rfl (by decide) boolC_len (.slice no nl nc) (P.map (·.close)) rfl (HD2.out.n.alloc _) _ [false] rfl HNB.out (boolC_ones _) (by have := HLE.out.2; simp only [List.length_singleton]; omega) (by decide) (by simp; omega) ?_); intro v8 w8 hown hgrow hloc; obtain ⟨no8, nc8, hv8⟩ := hown.shape; subst hv8)
            have HD3 := Lib.hid ((HD2.out.later ((Below.refl _ w9).alloc (Nat.le_refl _) _)).putN hown hgrow hloc)
            clear hown hgrow hloc HNB hs2 HD2
            have hs3 := HD3.out.size
            have z0 := HD3.out.box.cell 0 _ rfl
            have zl := HD3.out.box.lt
            go_upto_region 15 with ((with_reducible show wpList _ _ _ (Oper.mk none (Op.store 87 (.tmp 5) (.tmp 89)) _ _ _ _ :: _) _ _); refine wpList_store_box rfl 87 (.tmp 5) (.tmp 89) rfl (B + 1) _ [.bool false, .bool true, .string ⟨#[]⟩] rfl rfl HD3.out.box rfl (by kernel_rfl) (by simp [Value.oneCell']) ?_; intro W7 v7 hg7)
            have HD7 : Hid (DocAt B w W7 (.slice lo9 (P.length + 1) lc9) (.slice no8 (P.length + 1) nc8) ((P ++ [(⟨t, hy, false⟩ : Pc)]).map rawP) ((P ++ [(⟨t, hy, false⟩ : Pc)]).map (·.close)) [.bool false, .bool true, .string ⟨#[]⟩]) := by
              have := HD3.out.boxed v7 hg7
              have e1 : (P.map rawP ++ [rawP (⟨t, hy, false⟩ : Pc)]).length = P.length + 1 := by simp
              have e2 : (P.map (·.close) ++ [false]).length = P.length + 1 := by simp
              rw [e1, e2] at this
              show DocAt _ _ _ _ _ _ _ _
              rw [List.map_append, List.map_append]
              exact this
            clear v7 hg7 HD3 z0 zl hs3
            have hs7 := HD7.out.size
            go_wp2
            go_roundw
            case rel => exact ⟨k + 1, k + 1, 0, _, _, _, true, lo9, no8, lc9, nc8, [], rfl, rfl, by go_num, by go_num, HN.out, HD7.out, rfl, (midB_nil _ _).symm⟩
            case measure => simp [intOf]; omega
        | false =>
          have hm46 : ((s[k].toNat : Int) == 46) = false := by
            rw [hkb, markV_low] at hm
            rw [beq_eq_false_iff_ne]; intro e; simp [markV] at hm; omega
          have hm45 : ((s[k].toNat : Int) == 45) = false := by
            rw [hkb, markV_low] at hm
            rw [beq_eq_false_iff_ne]; intro e; simp [markV] at hm; omega
          by_cases hf : f < k
          · have hk1 : k - 1 < s.size := by omega
            have hi2 : IntKind.i64.wrap ((k : Int) - 1) = ((k - 1 : Nat) : Int) := by rw [IntWalk.i64_in _ (by omega)]; omega
            have hX0 : 0 < X.size := by
              rw [HXE.out, bs_size, HT.out]
              have := (midB_last T hf (by rw [HTL.out]; omega)).1
              cases hb : midB T f k with
              | nil => rw [hb] at this; simp at this
              | cons _ _ => simp
            have d2 : decide ((0 : Int) < (X.size : Int)) = true := decide_eq_true (by omega)
            have d2' : decide (0 < X.size) = true := decide_eq_true hX0
            have hd0 : (cDigit T[k] != cDigit (T[k - 1]'(by omega))) = (cDigit s[k] != cDigit s[k - 1]) := by
              rw [hkb, HTG.out (k - 1) hk1, cDigit_low, cDigit_low]
            have HG1 : Hid (∀ x : Later wr, Calls Tryz.prog 66 #[.int .u8 s[k].toNat] x.at_ fun e w'' => e = .returned (.bool (cDigit s[k])) ∧ ∃ y : Later wr, w'' = y.at_) := fun x => Later.callS ((refDigit_any s[k] _).mono fun e w' h => ⟨h.1, h.2 ▸ Below.refl _ _⟩)
            have HG2 : Hid (∀ x : Later wr, Calls Tryz.prog 66 #[.int .u8 s[k - 1].toNat] x.at_ fun e w'' => e = .returned (.bool (cDigit s[k - 1])) ∧ ∃ y : Later wr, w'' = y.at_) := fun x => Later.callS ((refDigit_any s[k - 1] _).mono fun e w' h => ⟨h.1, h.2 ▸ Below.refl _ _⟩)
            cases hd : (cDigit s[k] != cDigit s[k - 1]) with
            | true =>
              as_aux_lemma =>
              have hd' : (!(cDigit s[k] == cDigit s[k - 1])) = true := hd
              have HN0 := HC.out.turn hkT hm hf (by rw [hd0]; exact hd)
              rw [← HT.out] at HN0
              have HN := Lib.hid HN0
              have HNT : Hid (midB T k (k + 1) = [] ++ [T[k]]) := by show _ = _; rw [midB_next T (by omega) hkT, midB_nil]
              clear hm hd0 HN0
              have hLC := @Later.cells wr
              go_upto_region 9 with fail
              refine region_laterS (by kernel_rfl) (by kernel_rfl) ?_
              repeat (go_big_quiet_step ((go_at_call 66; first | (with_reducible exact HG1.out _) | (with_reducible exact HG2.out _))))
              refine wpQuiet_nil ?_
              rintro _ ⟨nx, rfl⟩
              have HD := Lib.hid (HD.out.later nx.below)
              have HSZ := Lib.hid HD.out.size
              clear hLC
              generalize nx.at_ = wn at *
              clear c0 c1 c2 cl
              have c0 := HD.out.box.cell 0 _ rfl
              have f0 := HD.out.box.free 0
              have c1 := HD.out.box.cell 1 _ rfl
              have c2 := HD.out.box.cell 2 _ rfl
              have cl := HD.out.box.lt
              clear HG1 HG2 hd hd' hi2
              go_upto_region 12 with fail
              refine wp_world ?_
              intro W1 hW1
              have HD1 : Hid (DocAt B w W1 (.slice lo ll lc) (.slice no nl nc) (P.map rawP) (P.map (·.close)) [.bool (!isNum t), .bool hy, .string X]) := by
                rw [hW1]
                exact HD.out.boxed (HD.out.box.setOne rfl (by simp)) (setCell_grown _ _ _ _)
              clear hW1 c0 c1 c2 cl f0 hdw hdwN
              have hs1 := HD1.out.size
              have k0 := HD1.out.box.cell 0 _ rfl
              have k1 := HD1.out.box.cell 1 _ rfl
              have k2 := HD1.out.box.cell 2 _ rfl
              have kl := HD1.out.box.lt
              have HNW : Hid (SliceOf 3 docC (W1.alloc (.cells #[.bool (!isNum t), .bool hy, .string X] 87)) (.slice (some ⟨W1.heap.size, 0, none⟩) 1 1) [rawP (⟨t, hy, true⟩ : Pc)]) := by
                have := sliceLit docC_len W1 [rawP (⟨t, hy, true⟩ : Pc)] 87 W1.heap.size 1 rfl rfl (by simp [maxLen])
                show SliceOf _ _ _ _ _
                rw [HXE.out]
                simpa [docC, rawP] using this
              go_upto_region 13 with (at_builtin; go_loud (refine wpList_append_slice _ rfl _ _ 84 rfl (B + 2) 87 Tryz.underlying84 info_dp rfl (by decide) docC_len (.slice lo ll lc) (P.map rawP) rfl (HD1.out.l.alloc _) _ [rawP (⟨t, hy, true⟩ : Pc)] rfl HNW.out (docC_ones _) (by have := HLE.out.1; simp only [List.length_singleton]; omega) (by decide) (by simp; omega) ?_); intro v9 w9 hown hgrow hloc; obtain ⟨lo9, lc9, hv9⟩ := hown.shape; subst hv9)
              have HD2 := Lib.hid ((HD1.out.later ((Below.refl _ W1).alloc (Nat.le_refl _) _)).putL hown hgrow hloc)
              clear hown hgrow hloc HNW k0 k1 k2 kl hs1 HD1
              have hs2 := HD2.out.size
              have HNB : Hid (SliceOf 1 boolC (w9.alloc (.cells #[.bool true] 4)) (.slice (some ⟨w9.heap.size, 0, none⟩) 1 1) [true]) := by
                show SliceOf _ _ _ _ _
                simpa [boolC] using sliceLit boolC_len w9 [true] 4 w9.heap.size 1 rfl rfl (by simp [maxLen])
              go_upto_region 14 with (at_builtin; go_loud (refine wpList_append_slice _ rfl _ _ 140 rfl B 4 Tryz.underlying140 info_bl rfl (by decide) boolC_len (.slice no nl nc) (P.map (·.close)) rfl (HD2.out.n.alloc _) _ [true] rfl HNB.out (boolC_ones _) (by have := HLE.out.2; simp only [List.length_singleton]; omega) (by decide) (by simp; omega) ?_); intro v8 w8 hown hgrow hloc; obtain ⟨no8, nc8, hv8⟩ := hown.shape; subst hv8)
              have HD3 := Lib.hid ((HD2.out.later ((Below.refl _ w9).alloc (Nat.le_refl _) _)).putN hown hgrow hloc)
              clear hown hgrow hloc HNB hs2 HD2
              have hs3 := HD3.out.size
              have z0 := HD3.out.box.cell 0 _ rfl
              have zl := HD3.out.box.lt
              go_upto_region 15 with ((with_reducible show wpList _ _ _ (Oper.mk none (Op.store 87 (.tmp 5) (.tmp 89)) _ _ _ _ :: _) _ _); refine wpList_store_box rfl 87 (.tmp 5) (.tmp 89) rfl (B + 1) _ [.bool false, .bool true, .string ⟨#[]⟩] rfl rfl HD3.out.box rfl (by kernel_rfl) (by simp [Value.oneCell']) ?_; intro W7 v7 hg7)
              have HD7 : Hid (DocAt B w W7 (.slice lo9 (P.length + 1) lc9) (.slice no8 (P.length + 1) nc8) ((P ++ [(⟨t, hy, true⟩ : Pc)]).map rawP) ((P ++ [(⟨t, hy, true⟩ : Pc)]).map (·.close)) [.bool false, .bool true, .string ⟨#[]⟩]) := by
                have := HD3.out.boxed v7 hg7
                have e1 : (P.map rawP ++ [rawP (⟨t, hy, true⟩ : Pc)]).length = P.length + 1 := by simp
                have e2 : (P.map (·.close) ++ [true]).length = P.length + 1 := by simp
                rw [e1, e2] at this
                show DocAt _ _ _ _ _ _ _ _
                rw [List.map_append, List.map_append]
                exact this
              clear v7 hg7 HD3 z0 zl hs3
              have hs7 := HD7.out.size
              have HGQ : Hid ((0 : Nat) = cntD []) := rfl
              obtain ⟨Y, hY⟩ : ∃ Y : S, Y = bs [] := ⟨_, rfl⟩
              have HYE := Lib.hid hY
              have HD7 : Hid (DocAt B w W7 (.slice lo9 (P.length + 1) lc9) (.slice no8 (P.length + 1) nc8) ((P ++ [(⟨t, hy, true⟩ : Pc)]).map rawP) ((P ++ [(⟨t, hy, true⟩ : Pc)]).map (·.close)) [.bool false, .bool true, .string Y]) := by show DocAt _ _ _ _ _ _ _ _; rw [hY]; exact HD7.out
              clear hY
              go_upto_region 17 with fail
              have HLW := Lib.hid (refLower_any s[k])
              have b2 := HD7.out.box.cell 2 _ rfl
              have f2 := HD7.out.box.free 2
              have bl := HD7.out.box.lt
              obtain ⟨c, hc⟩ : ∃ c, c = lowV s[k] := ⟨_, rfl⟩
              rw [← hc] at HLW
              have HCD : Hid (cDigit c = cDigit s[k]) := by show _ = _; rw [hc, cDigit_low]
              have HTK : Hid (T[k] = c) := by show _ = _; rw [hc]; exact HTG.out k hkl
              have hcv := v_conv (W7.alloc (.cells #[.int .u8 (c.toNat : Nat)] 5)).drew W7.heap.size c (v_cell W7 (.int .u8 (c.toNat : Nat)) 5 (0, 0))
              have HAP : (Y : S) ++ bs [c] = bs ([] ++ [c]) := by rw [HYE.out]; exact bs_append _ _
              have hsz2 : ¬ 9223372036854775807 < (Y : S).size + (bs [c]).size := by rw [HYE.out]; rw [bs_size]; have := HTN.out; simp [bs_size]; try omega
              clear hc
              go_region_law (first | (go_simp; go_at_call 67; refine (HLW.out _).mono ?_; rintro e w3 ⟨rfl, rfl⟩))
              all_goals
                go_upto_region 18 with fail
                refine wp_world ?_
                intro W3 hW3
                have HD4 : Hid (DocAt B w W3 (.slice lo9 (P.length + 1) lc9) (.slice no8 (P.length + 1) nc8) ((P ++ [(⟨t, hy, true⟩ : Pc)]).map rawP) ((P ++ [(⟨t, hy, true⟩ : Pc)]).map (·.close)) [.bool false, .bool true, .string (bs ([] ++ [c]))]) := by
                  show DocAt _ _ _ _ _ _ _ _
                  rw [hW3]
                  exact (HD7.out.boxed (HD7.out.box.setOne rfl (by simp)) (setCell_grown _ _ _ _)).later (belowN ((Below.refl _ _).alloc (Nat.le_refl _) (.cells #[.int .u8 (c.toNat : Nat)] 5)) 1)
                clear hW3 b2 f2 bl hcv HAP hsz2 HLW
                have HDA := Lib.hid (refDigit_any s[k] W3)
                go_wp2_with fail
                refine HDA.out.mono ?_
                rintro e w4 ⟨rfl, rfl⟩
                clear HDA
                cases hdc : cDigit s[k] with
                | true =>
                  as_aux_lemma =>
                  have HCN2 : Hid (0 + 1 = cntD ([] ++ [c])) := by show _ = _; rw [cntD_add, HCD.out, hdc, if_pos rfl, ← HGQ.out]
                  go_wp2
                  go_roundw
                  case rel => exact ⟨k + 1, k, 0 + 1, _, _, _, true, lo9, no8, lc9, nc8, [] ++ [c], rfl, rfl, by go_num, by go_num, HN.out, HD4.out, HCN2.out, by show _ = _; rw [HNT.out, HTK.out]⟩
                  case measure => simp [intOf]; omega
                | false =>
                  as_aux_lemma =>
                  have HCN2 : Hid (0 = cntD ([] ++ [c])) := by show _ = _; rw [cntD_add, HCD.out, hdc, if_neg (by simp), ← HGQ.out]; try rfl
                  go_wp2
                  go_roundw
                  case rel => exact ⟨k + 1, k, 0, _, _, _, true, lo9, no8, lc9, nc8, [] ++ [c], rfl, rfl, by go_num, by go_num, HN.out, HD4.out, HCN2.out, by show _ = _; rw [HNT.out, HTK.out]⟩
                  case measure => simp [intOf]; omega
            | false =>
              as_aux_lemma =>
              have hd' : (!(cDigit s[k] == cDigit s[k - 1])) = false := hd
              have HN := Lib.hid (HC.out.on hkT hm hf (by rw [hd0]; exact hd))
              have HNT : Hid (midB T f (k + 1) = t ++ [T[k]]) := by show _ = _; rw [midB_next T (by omega) hkT, HT.out]
              clear hm hd0
              have hLC := @Later.cells wr
              go_upto_region 9 with fail
              refine region_laterS (by kernel_rfl) (by kernel_rfl) ?_
              repeat (go_big_quiet_step ((go_at_call 66; first | (with_reducible exact HG1.out _) | (with_reducible exact HG2.out _))))
              refine wpQuiet_nil ?_
              rintro _ ⟨nx, rfl⟩
              have HD := Lib.hid (HD.out.later nx.below)
              have HSZ := Lib.hid HD.out.size
              clear hLC
              generalize nx.at_ = wn at *
              clear c0 c1 c2 cl
              have c0 := HD.out.box.cell 0 _ rfl
              have f0 := HD.out.box.free 0
              have c1 := HD.out.box.cell 1 _ rfl
              have c2 := HD.out.box.cell 2 _ rfl
              have cl := HD.out.box.lt
              clear HG1 HG2 hd' hd hi2
              have HGQ := HG
              have hi3 : IntKind.i64.wrap ((dg : Int) + 1) = (dg : Int) + 1 := IntWalk.i64_in _ (by have h1 := HG.out; have h2 := cntD_le t; have h3 := HTN.out; omega)
              go_upto_region 17 with fail
              have HLW := Lib.hid (refLower_any s[k])
              have b2 := HD.out.box.cell 2 _ rfl
              have f2 := HD.out.box.free 2
              have bl := HD.out.box.lt
              obtain ⟨c, hc⟩ : ∃ c, c = lowV s[k] := ⟨_, rfl⟩
              rw [← hc] at HLW
              have HCD : Hid (cDigit c = cDigit s[k]) := by show _ = _; rw [hc, cDigit_low]
              have HTK : Hid (T[k] = c) := by show _ = _; rw [hc]; exact HTG.out k hkl
              have hcv := v_conv (wn.alloc (.cells #[.int .u8 (c.toNat : Nat)] 5)).drew wn.heap.size c (v_cell wn (.int .u8 (c.toNat : Nat)) 5 (0, 0))
              have HAP : (X : S) ++ bs [c] = bs (t ++ [c]) := by rw [HXE.out]; exact bs_append _ _
              have hsz2 : ¬ 9223372036854775807 < (X : S).size + (bs [c]).size := by rw [HXE.out]; rw [bs_size]; have := HTN.out; simp [bs_size]; try omega
              clear hc
              go_region_law (first | (go_simp; go_at_call 67; refine (HLW.out _).mono ?_; rintro e w3 ⟨rfl, rfl⟩))
              all_goals
                go_upto_region 18 with fail
                refine wp_world ?_
                intro W3 hW3
                have HD4 : Hid (DocAt B w W3 (.slice lo (ll) lc) (.slice no (nl) nc) ((P).map rawP) ((P).map (·.close)) [.bool false, .bool hy, .string (bs (t ++ [c]))]) := by
                  show DocAt _ _ _ _ _ _ _ _
                  rw [hW3]
                  exact (HD.out.boxed (HD.out.box.setOne rfl (by simp)) (setCell_grown _ _ _ _)).later (belowN ((Below.refl _ _).alloc (Nat.le_refl _) (.cells #[.int .u8 (c.toNat : Nat)] 5)) 1)
                clear hW3 b2 f2 bl hcv HAP hsz2 HLW
                have HDA := Lib.hid (refDigit_any s[k] W3)
                go_wp2_with fail
                refine HDA.out.mono ?_
                rintro e w4 ⟨rfl, rfl⟩
                clear HDA
                cases hdc : cDigit s[k] with
                | true =>
                  as_aux_lemma =>
                  have HCN2 : Hid (dg + 1 = cntD (t ++ [c])) := by show _ = _; rw [cntD_add, HCD.out, hdc, if_pos rfl, ← HGQ.out]
                  go_wp2
                  go_roundw
                  case rel => exact ⟨k + 1, f, dg + 1, _, _, _, hy, lo, no, lc, nc, t ++ [c], rfl, rfl, by go_num, by go_num, HN.out, HD4.out, HCN2.out, by show _ = _; rw [HNT.out, HTK.out]⟩
                  case measure => simp [intOf]; omega
                | false =>
                  as_aux_lemma =>
                  have HCN2 : Hid (dg = cntD (t ++ [c])) := by show _ = _; rw [cntD_add, HCD.out, hdc, if_neg (by simp), ← HGQ.out]; try rfl
                  go_wp2
                  go_roundw
                  case rel => exact ⟨k + 1, f, dg, _, _, _, hy, lo, no, lc, nc, t ++ [c], rfl, rfl, by go_num, by go_num, HN.out, HD4.out, HCN2.out, by show _ = _; rw [HNT.out, HTK.out]⟩
                  case measure => simp [intOf]; omega
          · as_aux_lemma =>
            obtain rfl : k = f := by omega
            have ht0 : t = [] := by rw [HT.out, midB_nil]
            have hX0 : X.size = 0 := by rw [HXE.out, bs_size, ht0]; rfl
            have d2 : decide ((0 : Int) < (X.size : Int)) = false := decide_eq_false (by omega)
            have d2' : decide (0 < X.size) = false := decide_eq_false (by omega)
            have HN := Lib.hid (HC.out.first hkT hm)
            have HNT : Hid (midB T k (k + 1) = t ++ [T[k]]) := by show _ = _; rw [midB_next T (by omega) hkT, HT.out]
            clear hm hX0 ht0
            have hLC := @Later.cells wr
            go_upto_region 9 with fail
            refine region_laterS (by kernel_rfl) (by kernel_rfl) ?_
            repeat (go_big_quiet_step (fail))
            refine wpQuiet_nil ?_
            rintro _ ⟨nx, rfl⟩
            have HD := Lib.hid (HD.out.later nx.below)
            have HSZ := Lib.hid HD.out.size
            clear hLC
            generalize nx.at_ = wn at *
            clear c0 c1 c2 cl
            have c0 := HD.out.box.cell 0 _ rfl
            have f0 := HD.out.box.free 0
            have c1 := HD.out.box.cell 1 _ rfl
            have c2 := HD.out.box.cell 2 _ rfl
            have cl := HD.out.box.lt
            have HGQ := HG
            have hi3 : IntKind.i64.wrap ((dg : Int) + 1) = (dg : Int) + 1 := IntWalk.i64_in _ (by have h1 := HG.out; have h2 := cntD_le t; have h3 := HTN.out; omega)
            go_upto_region 17 with fail
            have HLW := Lib.hid (refLower_any s[k])
            have b2 := HD.out.box.cell 2 _ rfl
            have f2 := HD.out.box.free 2
            have bl := HD.out.box.lt
            obtain ⟨c, hc⟩ : ∃ c, c = lowV s[k] := ⟨_, rfl⟩
            rw [← hc] at HLW
            have HCD : Hid (cDigit c = cDigit s[k]) := by show _ = _; rw [hc, cDigit_low]
            have HTK : Hid (T[k] = c) := by show _ = _; rw [hc]; exact HTG.out k hkl
            have hcv := v_conv (wn.alloc (.cells #[.int .u8 (c.toNat : Nat)] 5)).drew wn.heap.size c (v_cell wn (.int .u8 (c.toNat : Nat)) 5 (0, 0))
            have HAP : (X : S) ++ bs [c] = bs (t ++ [c]) := by rw [HXE.out]; exact bs_append _ _
            have hsz2 : ¬ 9223372036854775807 < (X : S).size + (bs [c]).size := by rw [HXE.out]; rw [bs_size]; have := HTN.out; simp [bs_size]; try omega
            clear hc
            go_region_law (first | (go_simp; go_at_call 67; refine (HLW.out _).mono ?_; rintro e w3 ⟨rfl, rfl⟩))
            all_goals
              go_upto_region 18 with fail
              refine wp_world ?_
              intro W3 hW3
              have HD4 : Hid (DocAt B w W3 (.slice lo (ll) lc) (.slice no (nl) nc) ((P).map rawP) ((P).map (·.close)) [.bool false, .bool hy, .string (bs (t ++ [c]))]) := by
                show DocAt _ _ _ _ _ _ _ _
                rw [hW3]
                exact (HD.out.boxed (HD.out.box.setOne rfl (by simp)) (setCell_grown _ _ _ _)).later (belowN ((Below.refl _ _).alloc (Nat.le_refl _) (.cells #[.int .u8 (c.toNat : Nat)] 5)) 1)
              clear hW3 b2 f2 bl hcv HAP hsz2 HLW
              have HDA := Lib.hid (refDigit_any s[k] W3)
              go_wp2_with fail
              refine HDA.out.mono ?_
              rintro e w4 ⟨rfl, rfl⟩
              clear HDA
              cases hdc : cDigit s[k] with
              | true =>
                as_aux_lemma =>
                have HCN2 : Hid (dg + 1 = cntD (t ++ [c])) := by show _ = _; rw [cntD_add, HCD.out, hdc, if_pos rfl, ← HGQ.out]
                go_wp2
                go_roundw
                case rel => exact ⟨k + 1, k, dg + 1, _, _, _, hy, lo, no, lc, nc, t ++ [c], rfl, rfl, by go_num, by go_num, HN.out, HD4.out, HCN2.out, by show _ = _; rw [HNT.out, HTK.out]⟩
                case measure => simp [intOf]; omega
              | false =>
                as_aux_lemma =>
                have HCN2 : Hid (dg = cntD (t ++ [c])) := by show _ = _; rw [cntD_add, HCD.out, hdc, if_neg (by simp), ← HGQ.out]; try rfl
                go_wp2
                go_roundw
                case rel => exact ⟨k + 1, k, dg, _, _, _, hy, lo, no, lc, nc, t ++ [c], rfl, rfl, by go_num, by go_num, HN.out, HD4.out, HCN2.out, by show _ = _; rw [HNT.out, HTK.out]⟩
                case measure => simp [intOf]; omega
    · as_aux_lemma =>
      generalize wr = wr1 at *
      have hk2 : k = s.size + 1 := by omega
      have d0 : decide ((k : Int) ≤ (s.size : Int)) = false := decide_eq_false (by omega)
      have HE : cutGo T [] false = P := by
        obtain ⟨-, ⟨h1, -, -⟩ | ⟨-, h3⟩⟩ := HC.out
        · rw [HTL.out] at h1; omega
        · exact h3
      rw [HE] at HRW HTX HCN
      have hll : ll = P.length := by
        obtain ⟨a, c, e⟩ := HD.out.l.shape
        simp at e
        exact e.2.1
      subst hll
      have hnl : nl = P.length := by
        obtain ⟨a, c, e⟩ := HD.out.n.shape
        simp at e
        exact e.2.1
      subst hnl
      rw [← midL_zero P] at HD
      clear HC HG HT HE HTG HTL hle HSZ
      generalize [Value.bool false, Value.bool hy, Value.string (bs t)] = cs at *
      go_wp2
      clear d0 hk2 hk
      go_loopw [110] (fun i wr2 => ∃ k2 : Nat, k2 ≤ P.length ∧ i = .int .i64 k2 ∧ Hid (DocAt B w wr2 (.slice lo P.length lc) (.slice no P.length nc) (midL P k2) (P.map (·.close)) cs)) (fun i _ => P.length - (intOf i).toNat)
      case atStart => exact ⟨0, Nat.zero_le _, rfl, HD⟩
      case round =>
        clear HD
        generalize wr = wr2 at *
        obtain ⟨k2, hk2', rfl, HD⟩ := hrel
        by_cases hlt : k2 < P.length
        · have hwk : IntKind.i64.wrap ((k2 : Int) + 1) = (k2 : Int) + 1 := IntWalk.i64_in _ (by have := HCN.out; omega)
          have HMS := Lib.hid (midL_set hlt)
          obtain ⟨g, rfl, hgl, hfz, hcc, hst⟩ := HD.out.setL (midL_at hlt) (show 2 < 3 by decide)
          have HST := Lib.hid (fun u x' h => hst u x' h : ∀ u x', docC x' = (docC (rawP P[k2])).set 2 u → DocAt B w (wr2.setCell ⟨g, k2 * 3 + 2, none⟩ u) (.slice (some ⟨g, 0, none⟩) P.length lc) (.slice no P.length nc) ((midL P k2).set k2 x') (P.map (·.close)) cs)
          obtain ⟨g2, rfl, -, hg2, hn0, -, -, -⟩ := own_store boolC_len HD.out.n (k := k2) (x := P[k2].close) (by simp [hlt]) (show 0 < 1 by decide)
          have cn : wr2.cell? ⟨g2, k2, none⟩ = some (.bool P[k2].close) := by simpa [boolC] using hn0
          have HQL : Hid (P[k2].text.length ≤ 1000000) := HTX.out _ (List.getElem_mem _)
          have HMA := Lib.hid (midL_at hlt)
          generalize P[k2] = q at *
          clear hst hn0
          obtain ⟨x, hx0⟩ : ∃ x : S, x = bs q.text := ⟨_, rfl⟩
          have hx : x.data.toList = q.text := by rw [hx0, bs_lst]
          have c2 : wr2.cell? ⟨g, k2 * 3 + 2, none⟩ = some (.string x) := by have := hcc 2 _ rfl; rw [hx0]; exact this
          clear hx0
          cases hnm : isNum q.text with
          | true =>
            as_aux_lemma =>
            have c0 : wr2.cell? ⟨g, k2 * 3, none⟩ = some (.bool false) := by have := hcc 0 _ rfl; simpa [docC, rawP, hnm] using this
            have hraw : rawP q = ⟨q.hyphen, true, q.text⟩ := by unfold rawP; rw [hnm]
            have HPV : Hid (partV q = ⟨q.hyphen, true, noNull q.text⟩) := by show _ = _; unfold partV; rw [if_pos hnm]
            rw [hraw] at HMA
            clear hnm hcc HST
            go_wp2
            go_loopw [] (fun wr3 => ∃ y : S, Hid (noNull y.data.toList = noNull q.text) ∧ Hid (DocAt B w wr3 (.slice (some ⟨g, 0, none⟩) P.length lc) (.slice (some ⟨g2, 0, none⟩) P.length nc) ((midL P k2).set k2 ⟨q.hyphen, true, y.data.toList⟩) (P.map (·.close)) cs)) (fun wr3 => strAt wr3 g (k2 * 3 + 2))
            case atStart => exact ⟨x, by show _ = _; rw [hx], by show DocAt _ _ _ _ _ _ _ _; rw [hx, set_same HMA.out]; exact HD.out⟩
            case round =>
              clear HD c0 c2 hgl hfz cn hg2
              generalize wr = wr3 at *
              obtain ⟨y, HY, HD⟩ := hrel
              obtain ⟨g3, hg3, hgl, hfz, hcc, hst⟩ := HD.out.setL (k := k2) (j := 2) (x := ⟨q.hyphen, true, y.data.toList⟩) (by rw [List.getElem?_set_self (by rw [midL_len]; exact hlt)]) (by decide)
              obtain rfl : g = g3 := by simpa using hg3
              have c2 : wr3.cell? ⟨g, k2 * 3 + 2, none⟩ = some (.string y) := by have := hcc 2 _ rfl; rwa [bs_self] at this
              have HM3 := Lib.hid (strAt_of c2)
              clear hcc hg3
              by_cases h0 : 0 < y.size
              · have d1 : decide ((0 : Int) < (y.size : Int)) = true := decide_eq_true (by omega)
                have d1' : decide (0 < y.size) = true := decide_eq_true h0
                have h1 : 1 ≤ y.size := h0
                have h1' : (1 : Int) ≤ (y.size : Int) := by omega
                by_cases hc : y[0].toNat = 48
                · have q1 : (((y[0].toNat : Nat) : Int) == 48) = true := by rw [beq_iff_eq]; omega
                  have HY2 : Hid (noNull (y.extract 1 y.size).data.toList = noNull q.text) := by show _ = _; rw [← noNull_step y h0 hc]; exact HY.out
                  have HS : Hid (DocAt B w (wr3.setCell ⟨g, k2 * 3 + 2, none⟩ (.string (y.extract 1 y.size))) (.slice (some ⟨g, 0, none⟩) P.length lc) (.slice (some ⟨g2, 0, none⟩) P.length nc) ((midL P k2).set k2 ⟨q.hyphen, true, (y.extract 1 y.size).data.toList⟩) (P.map (·.close)) cs) := by
                    have := hst (.string (y.extract 1 y.size)) ⟨q.hyphen, true, (y.extract 1 y.size).data.toList⟩ (by unfold docC; rw [bs_self]; rfl)
                    rw [List.set_set] at this
                    exact this
                  have HM4 : Hid (strAt (wr3.setCell ⟨g, k2 * 3 + 2, none⟩ (.string (y.extract 1 y.size))) g (k2 * 3 + 2) = y.size - 1) := by
                    show _ = _
                    rw [strAt_of (World.cell?_setCell_same _ _ _ c2)]; simp
                  clear hc hst
                  go_wp2
                  go_roundw
                  case rel => exact ⟨_, HY2, HS⟩
                  case measure => rw [HM4.out, HM3.out]; omega
                · have q1 : (((y[0].toNat : Nat) : Int) == 48) = false := by rw [beq_eq_false_iff_ne]; omega
                  have HS : Hid (DocAt B w wr3 (.slice (some ⟨g, 0, none⟩) P.length lc) (.slice (some ⟨g2, 0, none⟩) P.length nc) (midL P (k2 + 1)) (P.map (·.close)) cs) := by
                    show DocAt _ _ _ _ _ _ _ _
                    rw [← HMS.out, HPV.out, ← HY.out, noNull_stop y h0 hc]; exact HD.out
                  clear hc hst
                  go_wp2
                  go_roundw
                  case rel => exact ⟨k2 + 1, hlt, by go_num, HS⟩
                  case measure => simp [intOf]; omega
              · have d1 : decide ((0 : Int) < (y.size : Int)) = false := decide_eq_false (by omega)
                have d1' : decide (0 < y.size) = false := decide_eq_false h0
                have HS : Hid (DocAt B w wr3 (.slice (some ⟨g, 0, none⟩) P.length lc) (.slice (some ⟨g2, 0, none⟩) P.length nc) (midL P (k2 + 1)) (P.map (·.close)) cs) := by
                  show DocAt _ _ _ _ _ _ _ _
                  rw [← HMS.out, HPV.out, ← HY.out, noNull_nil y (by omega)]; exact HD.out
                clear hst
                go_wp2
                go_roundw
                case rel => exact ⟨k2 + 1, hlt, by go_num, HS⟩
                case measure => simp [intOf]; omega
          | false =>
            as_aux_lemma =>
            have HNM := Lib.hid hnm
            have HPV : Hid (partV q = ⟨q.hyphen, false, wordW q.text q.close⟩) := by show _ = _; unfold partV; rw [if_neg (by rw [hnm]; simp)]
            have c0 : wr2.cell? ⟨g, k2 * 3, none⟩ = some (.bool true) := by have := hcc 0 _ rfl; simpa [docC, rawP, hnm] using this
            clear hnm hcc
            by_cases h0 : q.text = wGa
            · have q0 : (x.toList == [103, 97]) = true := lst_yes (by rw [hx]; exact h0)
              have HV : Hid (bs (wordW q.text q.close) = ⟨#[]⟩) := by show _ = _; rw [h0]; cases q.close <;> rfl
              clear h0  hx
              cases hcl : q.close with
              | true =>
                as_aux_lemma =>
                rw [hcl] at cn
                clear hcl
                have HS : Hid (DocAt B w (wr2.setCell ⟨g, k2 * 3 + 2, none⟩ (.string ⟨#[]⟩)) (.slice (some ⟨g, 0, none⟩) P.length lc) (.slice (some ⟨g2, 0, none⟩) P.length nc) (midL P (k2 + 1)) (P.map (·.close)) cs) := by
                  show DocAt _ _ _ _ _ _ _ _
                  rw [← HMS.out]
                  exact HST.out (.string ⟨#[]⟩) _ (by rw [HPV.out, docC]; simp [docC, rawP, HNM.out, HV.out])
                clear HV HPV
                go_wp2
                go_roundw
                case rel => exact ⟨k2 + 1, hlt, by go_num, HS.out⟩
                case measure => simp [intOf]; omega
              | false =>
                as_aux_lemma =>
                rw [hcl] at cn
                clear hcl
                have HS : Hid (DocAt B w (wr2.setCell ⟨g, k2 * 3 + 2, none⟩ (.string ⟨#[]⟩)) (.slice (some ⟨g, 0, none⟩) P.length lc) (.slice (some ⟨g2, 0, none⟩) P.length nc) (midL P (k2 + 1)) (P.map (·.close)) cs) := by
                  show DocAt _ _ _ _ _ _ _ _
                  rw [← HMS.out]
                  exact HST.out (.string ⟨#[]⟩) _ (by rw [HPV.out, docC]; simp [docC, rawP, HNM.out, HV.out])
                clear HV HPV
                go_wp2
                go_roundw
                case rel => exact ⟨k2 + 1, hlt, by go_num, HS.out⟩
                case measure => simp [intOf]; omega
            have q0 : (x.toList == [103, 97]) = false := lst_no (by rw [hx]; exact h0)
            by_cases h1 : q.text = wFinal
            · have q1 : (x.toList == [102, 105, 110, 97, 108]) = true := lst_yes (by rw [hx]; exact h1)
              have HV : Hid (bs (wordW q.text q.close) = ⟨#[]⟩) := by show _ = _; rw [h1]; cases q.close <;> rfl
              clear h1 h0 hx
              cases hcl : q.close with
              | true =>
                as_aux_lemma =>
                rw [hcl] at cn
                clear hcl
                have HS : Hid (DocAt B w (wr2.setCell ⟨g, k2 * 3 + 2, none⟩ (.string ⟨#[]⟩)) (.slice (some ⟨g, 0, none⟩) P.length lc) (.slice (some ⟨g2, 0, none⟩) P.length nc) (midL P (k2 + 1)) (P.map (·.close)) cs) := by
                  show DocAt _ _ _ _ _ _ _ _
                  rw [← HMS.out]
                  exact HST.out (.string ⟨#[]⟩) _ (by rw [HPV.out, docC]; simp [docC, rawP, HNM.out, HV.out])
                clear HV HPV
                go_wp2
                go_roundw
                case rel => exact ⟨k2 + 1, hlt, by go_num, HS.out⟩
                case measure => simp [intOf]; omega
              | false =>
                as_aux_lemma =>
                rw [hcl] at cn
                clear hcl
                have HS : Hid (DocAt B w (wr2.setCell ⟨g, k2 * 3 + 2, none⟩ (.string ⟨#[]⟩)) (.slice (some ⟨g, 0, none⟩) P.length lc) (.slice (some ⟨g2, 0, none⟩) P.length nc) (midL P (k2 + 1)) (P.map (·.close)) cs) := by
                  show DocAt _ _ _ _ _ _ _ _
                  rw [← HMS.out]
                  exact HST.out (.string ⟨#[]⟩) _ (by rw [HPV.out, docC]; simp [docC, rawP, HNM.out, HV.out])
                clear HV HPV
                go_wp2
                go_roundw
                case rel => exact ⟨k2 + 1, hlt, by go_num, HS.out⟩
                case measure => simp [intOf]; omega
            have q1 : (x.toList == [102, 105, 110, 97, 108]) = false := lst_no (by rw [hx]; exact h1)
            by_cases h2 : q.text = wRelease
            · have q2 : (x.toList == [114, 101, 108, 101, 97, 115, 101]) = true := lst_yes (by rw [hx]; exact h2)
              have HV : Hid (bs (wordW q.text q.close) = ⟨#[]⟩) := by show _ = _; rw [h2]; cases q.close <;> rfl
              clear h2 h0 h1 hx
              cases hcl : q.close with
              | true =>
                as_aux_lemma =>
                rw [hcl] at cn
                clear hcl
                have HS : Hid (DocAt B w (wr2.setCell ⟨g, k2 * 3 + 2, none⟩ (.string ⟨#[]⟩)) (.slice (some ⟨g, 0, none⟩) P.length lc) (.slice (some ⟨g2, 0, none⟩) P.length nc) (midL P (k2 + 1)) (P.map (·.close)) cs) := by
                  show DocAt _ _ _ _ _ _ _ _
                  rw [← HMS.out]
                  exact HST.out (.string ⟨#[]⟩) _ (by rw [HPV.out, docC]; simp [docC, rawP, HNM.out, HV.out])
                clear HV HPV
                go_wp2
                go_roundw
                case rel => exact ⟨k2 + 1, hlt, by go_num, HS.out⟩
                case measure => simp [intOf]; omega
              | false =>
                as_aux_lemma =>
                rw [hcl] at cn
                clear hcl
                have HS : Hid (DocAt B w (wr2.setCell ⟨g, k2 * 3 + 2, none⟩ (.string ⟨#[]⟩)) (.slice (some ⟨g, 0, none⟩) P.length lc) (.slice (some ⟨g2, 0, none⟩) P.length nc) (midL P (k2 + 1)) (P.map (·.close)) cs) := by
                  show DocAt _ _ _ _ _ _ _ _
                  rw [← HMS.out]
                  exact HST.out (.string ⟨#[]⟩) _ (by rw [HPV.out, docC]; simp [docC, rawP, HNM.out, HV.out])
                clear HV HPV
                go_wp2
                go_roundw
                case rel => exact ⟨k2 + 1, hlt, by go_num, HS.out⟩
                case measure => simp [intOf]; omega
            have q2 : (x.toList == [114, 101, 108, 101, 97, 115, 101]) = false := lst_no (by rw [hx]; exact h2)
            by_cases h3 : q.text = wCr
            · have q3 : (x.toList == [99, 114]) = true := lst_yes (by rw [hx]; exact h3)
              have HV : Hid (bs (wordW q.text q.close) = ⟨#[114, 99]⟩) := by show _ = _; rw [h3]; cases q.close <;> rfl
              clear h3 h0 h1 h2 hx
              cases hcl : q.close with
              | true =>
                as_aux_lemma =>
                rw [hcl] at cn
                clear hcl
                have HS : Hid (DocAt B w (wr2.setCell ⟨g, k2 * 3 + 2, none⟩ (.string ⟨#[114, 99]⟩)) (.slice (some ⟨g, 0, none⟩) P.length lc) (.slice (some ⟨g2, 0, none⟩) P.length nc) (midL P (k2 + 1)) (P.map (·.close)) cs) := by
                  show DocAt _ _ _ _ _ _ _ _
                  rw [← HMS.out]
                  exact HST.out (.string ⟨#[114, 99]⟩) _ (by rw [HPV.out, docC]; simp [docC, rawP, HNM.out, HV.out])
                clear HV HPV
                go_wp2
                go_roundw
                case rel => exact ⟨k2 + 1, hlt, by go_num, HS.out⟩
                case measure => simp [intOf]; omega
              | false =>
                as_aux_lemma =>
                rw [hcl] at cn
                clear hcl
                have HS : Hid (DocAt B w (wr2.setCell ⟨g, k2 * 3 + 2, none⟩ (.string ⟨#[114, 99]⟩)) (.slice (some ⟨g, 0, none⟩) P.length lc) (.slice (some ⟨g2, 0, none⟩) P.length nc) (midL P (k2 + 1)) (P.map (·.close)) cs) := by
                  show DocAt _ _ _ _ _ _ _ _
                  rw [← HMS.out]
                  exact HST.out (.string ⟨#[114, 99]⟩) _ (by rw [HPV.out, docC]; simp [docC, rawP, HNM.out, HV.out])
                clear HV HPV
                go_wp2
                go_roundw
                case rel => exact ⟨k2 + 1, hlt, by go_num, HS.out⟩
                case measure => simp [intOf]; omega
            have q3 : (x.toList == [99, 114]) = false := lst_no (by rw [hx]; exact h3)
            have HW : Hid (∀ n, wordW q.text n = if n = true ∧ q.text = [97] then wAlpha else if n = true ∧ q.text = [98] then wBeta else if n = true ∧ q.text = [109] then wMilestone else q.text) := by
              intro n
              unfold wordW
              rw [if_neg (fun e => by rcases e with e | e | e; exact h0 e; exact h1 e; exact h2 e), if_neg h3]
            clear h0 h1 h2 h3
            cases hcl : q.close with
            | false =>
              as_aux_lemma =>
              have HV : Hid (bs (wordW q.text q.close) = x) := by show _ = _; rw [hcl, HW.out, ← hx]; simp [bs_self]
              rw [hcl] at cn
              clear hcl HW hx
              have HS : Hid (DocAt B w (wr2.setCell ⟨g, k2 * 3 + 2, none⟩ (.string x)) (.slice (some ⟨g, 0, none⟩) P.length lc) (.slice (some ⟨g2, 0, none⟩) P.length nc) (midL P (k2 + 1)) (P.map (·.close)) cs) := by
                show DocAt _ _ _ _ _ _ _ _
                rw [← HMS.out]
                exact HST.out (.string x) _ (by rw [HPV.out, docC]; simp [docC, rawP, HNM.out, HV.out])
              clear HV HPV
              go_wp2
              go_roundw
              case rel => exact ⟨k2 + 1, hlt, by go_num, HS.out⟩
              case measure => simp [intOf]; omega
            | true =>
              as_aux_lemma =>
              by_cases g0 : q.text = [97]
              · have p0 : (x.toList == [97]) = true := lst_yes (by rw [hx]; exact g0)
                have HV : Hid (bs (wordW q.text q.close) = ⟨#[97, 108, 112, 104, 97]⟩) := by show _ = _; rw [hcl, HW.out, g0]; rfl
                rw [hcl] at cn
                clear hcl HW hx g0 
                have HS : Hid (DocAt B w (wr2.setCell ⟨g, k2 * 3 + 2, none⟩ (.string ⟨#[97, 108, 112, 104, 97]⟩)) (.slice (some ⟨g, 0, none⟩) P.length lc) (.slice (some ⟨g2, 0, none⟩) P.length nc) (midL P (k2 + 1)) (P.map (·.close)) cs) := by
                  show DocAt _ _ _ _ _ _ _ _
                  rw [← HMS.out]
                  exact HST.out (.string ⟨#[97, 108, 112, 104, 97]⟩) _ (by rw [HPV.out, docC]; simp [docC, rawP, HNM.out, HV.out])
                clear HV HPV
                go_wp2
                go_roundw
                case rel => exact ⟨k2 + 1, hlt, by go_num, HS.out⟩
                case measure => simp [intOf]; omega
              have p0 : (x.toList == [97]) = false := lst_no (by rw [hx]; exact g0)
              by_cases g1 : q.text = [98]
              · have p1 : (x.toList == [98]) = true := lst_yes (by rw [hx]; exact g1)
                have HV : Hid (bs (wordW q.text q.close) = ⟨#[98, 101, 116, 97]⟩) := by show _ = _; rw [hcl, HW.out, g1]; rfl
                rw [hcl] at cn
                clear hcl HW hx g1 g0
                have HS : Hid (DocAt B w (wr2.setCell ⟨g, k2 * 3 + 2, none⟩ (.string ⟨#[98, 101, 116, 97]⟩)) (.slice (some ⟨g, 0, none⟩) P.length lc) (.slice (some ⟨g2, 0, none⟩) P.length nc) (midL P (k2 + 1)) (P.map (·.close)) cs) := by
                  show DocAt _ _ _ _ _ _ _ _
                  rw [← HMS.out]
                  exact HST.out (.string ⟨#[98, 101, 116, 97]⟩) _ (by rw [HPV.out, docC]; simp [docC, rawP, HNM.out, HV.out])
                clear HV HPV
                go_wp2
                go_roundw
                case rel => exact ⟨k2 + 1, hlt, by go_num, HS.out⟩
                case measure => simp [intOf]; omega
              have p1 : (x.toList == [98]) = false := lst_no (by rw [hx]; exact g1)
              by_cases g2 : q.text = [109]
              · have p2 : (x.toList == [109]) = true := lst_yes (by rw [hx]; exact g2)
                have HV : Hid (bs (wordW q.text q.close) = ⟨#[109, 105, 108, 101, 115, 116, 111, 110, 101]⟩) := by show _ = _; rw [hcl, HW.out, g2]; rfl
                rw [hcl] at cn
                clear hcl HW hx g2 g0 g1
                have HS : Hid (DocAt B w (wr2.setCell ⟨g, k2 * 3 + 2, none⟩ (.string ⟨#[109, 105, 108, 101, 115, 116, 111, 110, 101]⟩)) (.slice (some ⟨g, 0, none⟩) P.length lc) (.slice (some ⟨g2, 0, none⟩) P.length nc) (midL P (k2 + 1)) (P.map (·.close)) cs) := by
                  show DocAt _ _ _ _ _ _ _ _
                  rw [← HMS.out]
                  exact HST.out (.string ⟨#[109, 105, 108, 101, 115, 116, 111, 110, 101]⟩) _ (by rw [HPV.out, docC]; simp [docC, rawP, HNM.out, HV.out])
                clear HV HPV
                go_wp2
                go_roundw
                case rel => exact ⟨k2 + 1, hlt, by go_num, HS.out⟩
                case measure => simp [intOf]; omega
              have p2 : (x.toList == [109]) = false := lst_no (by rw [hx]; exact g2)
              have HV : Hid (bs (wordW q.text q.close) = x) := by show _ = _; rw [hcl, HW.out, ← hx, if_neg (by rw [hx]; simp [g0]), if_neg (by rw [hx]; simp [g1]), if_neg (by rw [hx]; simp [g2])]; exact bs_self x
              rw [hcl] at cn
              clear hcl HW hx g0 g1 g2
              have HS : Hid (DocAt B w (wr2.setCell ⟨g, k2 * 3 + 2, none⟩ (.string x)) (.slice (some ⟨g, 0, none⟩) P.length lc) (.slice (some ⟨g2, 0, none⟩) P.length nc) (midL P (k2 + 1)) (P.map (·.close)) cs) := by
                show DocAt _ _ _ _ _ _ _ _
                rw [← HMS.out]
                exact HST.out (.string x) _ (by rw [HPV.out, docC]; simp [docC, rawP, HNM.out, HV.out])
              clear HV HPV
              go_wp2
              go_roundw
              case rel => exact ⟨k2 + 1, hlt, by go_num, HS.out⟩
              case measure => simp [intOf]; omega
        · as_aux_lemma =>
          obtain rfl : k2 = P.length := by omega
          obtain ⟨p0, r0, hraw, hp0⟩ := rawV_head s.data.toList
          have HPF : Hid (partsV s.data.toList = p0 :: delV r0) := by show _ = _; unfold partsV; rw [hraw]
          have HO0 : Hid (Owns B 87 3 docC wr2 (.slice lo P.length lc) (p0 :: r0)) := by
            show Owns _ _ _ _ _ _ _
            rw [← hraw, HRW.out, ← midL_all]; exact HD.out.l.base_mono (by omega)
          have HB0 := Lib.hid HD.out.below
          have hpl : P.length = r0.length + 1 := by
            have := congrArg List.length (hraw.symm.trans HRW.out)
            simp at this; omega
          have HRL : Hid (r0.length ≤ 900001) := by have := HCN.out; show _ ≤ _; omega
          have HPL := Lib.hid hpl
          clear HD hraw hp0 HRW HTX HCN hk2' hlt hpl
          generalize P.length = pl at *
          go_wp2
          go_loopw [3, 12] (fun v gv wr4 => ∃ (M : List PartV) (lo : Option Addr) (lc n : Nat) (gone : Bool), v = .slice lo n lc ∧ gv = .bool gone ∧ Hid (delV M = delV r0) ∧ Hid (M.length ≤ 900001) ∧ Hid (Owns B 87 3 docC wr4 (.slice lo n lc) (p0 :: M)) ∧ Hid (n = M.length + 1) ∧ Hid (Below B w wr4) ∧ Hid (gone = false → ∀ j, openV M j = false)) (fun v gv _ => 2 * lenV v + boolN gv)
          case atStart => exact ⟨r0, lo, lc, _, true, rfl, rfl, rfl, HRL, HO0, HPL, HB0, Lib.hid (fun h => by cases h)⟩
          case round =>
            clear HO0 HB0 HRL HPL
            generalize wr = wr4 at *
            obtain ⟨M, lo, lc, n, gone, rfl, rfl, HM, HL, HO, HN, HB, HG⟩ := hrel
            cases gone with
            | false =>
              as_aux_lemma =>
              have HDN := Lib.hid (delV_done (HG.out rfl))
              clear HG
              go_wp2
              go_ret
              rw [HBW.out]
              exact ⟨_, rfl, by rw [HPF.out, ← HM.out, HDN.out]; exact HO.out, HB.out⟩
            | true =>
              as_aux_lemma =>
              clear HG
              go_wp2
              go_loopw [3, 12, 13] (fun v gv iv wr5 => ∃ (M2 : List PartV) (lo : Option Addr) (lc n2 i : Nat) (gone : Bool), v = .slice lo n2 lc ∧ gv = .bool gone ∧ iv = .int .i64 i ∧ 1 ≤ i ∧ i ≤ 1000000 ∧ Hid (delV M2 = delV r0) ∧ Hid (M2.length ≤ M.length) ∧ Hid (Owns B 87 3 docC wr5 (.slice lo n2 lc) (p0 :: M2)) ∧ Hid (n2 = M2.length + 1) ∧ Hid (Below B w wr5) ∧ Hid (gone = false → i ≤ M2.length + 1 ∧ M2.length = M.length ∧ ∀ j, j + 1 < i → openV M2 j = false) ∧ Hid (gone = true → M2.length + 1 = M.length)) (fun v _ iv _ => 2 * lenV v + 1 - (intOf iv).toNat)
              case atStart => exact ⟨M, lo, lc, n, 1, false, rfl, rfl, rfl, Nat.le_refl _, by omega, HM, Nat.le_refl _, HO, HN, HB, Lib.hid (fun _ => ⟨by omega, rfl, fun j hj => by omega⟩), Lib.hid (fun h => by cases h)⟩
              case round =>
                clear HM HO HB
                generalize wr = wr5 at *
                obtain ⟨M2, lo, lc, n2, i, gone, rfl, rfl, rfl, hi1, hi9, HM, HLM, HO, HN2, HB, HG, HT⟩ := hrel
                have HI9 := Lib.hid hi9
                cases gone with
                | true =>
                  as_aux_lemma =>
                  have HT2 := Lib.hid (HT.out rfl)
                  clear HT HG
                  by_cases hlt : i < n2
                  · have d1 : decide ((i : Int) < (n2 : Int)) = true := decide_eq_true (by omega)
                    have d1' : decide (i < n2) = true := decide_eq_true hlt
                    clear hi9
                    go_wp2
                    go_roundw
                    case rel => exact ⟨M2, lo, lc, n2, true, rfl, rfl, HM, by have h1 := HL.out; have h2 := HLM.out; show _ ≤ _; omega, HO, HN2, HB, Lib.hid (fun h => by cases h)⟩
                    case measure => have h1 := HT2.out; have h2 := HN2.out; have h3 := HN.out; simp [lenV, boolN]; omega
                  · have d1 : decide ((i : Int) < (n2 : Int)) = false := decide_eq_false (by omega)
                    have d1' : decide (i < n2) = false := decide_eq_false hlt
                    clear hi9
                    go_wp2
                    go_roundw
                    case rel => exact ⟨M2, lo, lc, n2, true, rfl, rfl, HM, by have h1 := HL.out; have h2 := HLM.out; show _ ≤ _; omega, HO, HN2, HB, Lib.hid (fun h => by cases h)⟩
                    case measure => have h1 := HT2.out; have h2 := HN2.out; have h3 := HN.out; simp [lenV, boolN]; omega
                | false =>
                  as_aux_lemma =>
                  obtain ⟨hg1, hg2, hg3⟩ := HG.out rfl
                  have HG3 := Lib.hid hg3
                  clear HT HG hg3
                  by_cases hlt : i < n2
                  · have d1 : decide ((i : Int) < (n2 : Int)) = true := decide_eq_true (by omega)
                    have d1' : decide (i < n2) = true := decide_eq_true hlt
                    have hwi : IntKind.i64.wrap ((i : Int) + 1) = (i : Int) + 1 := IntWalk.i64_in _ (by omega)
                    have hin : i < (p0 :: M2).length := by have := HN2.out; simp; omega
                    obtain ⟨e, he⟩ : ∃ e, (p0 :: M2)[i]? = some e := ⟨_, List.getElem?_eq_getElem hin⟩
                    obtain ⟨g, rfl, -, hgl, -, -, hcs, -⟩ := own_store docC_len HO.out he (show 0 < 3 by decide)
                    have c2 : wr5.cell? ⟨g, i * 3 + 2, none⟩ = some (.string (bs e.text)) := hcs 2 _ rfl
                    have hop := openV_at hi1 he
                    have hq : (bs e.text).toList.isEmpty = e.text.isEmpty := by rw [ByteArray.toList_eq]; simp [bs]
                    have hq2 : ((bs e.text).toList == []) = e.text.isEmpty := by rw [ByteArray.toList_eq]; simp [bs]
                    clear hcs he
                    cases hem : e.text.isEmpty with
                    | false =>
                      rw [hem, Bool.false_and] at hop
                      rw [hem] at hq hq2
                      clear hem hi9
                      have HGN : Hid (∀ j, j + 1 < i + 1 → openV M2 j = false) := fun j hj => by
                        by_cases h : j + 1 < i
                        · exact HG3.out j h
                        · obtain rfl : j = i - 1 := by omega
                          exact hop
                      have HLN : Hid (M2.length = M.length) := hg2
                      clear hop hg1 hg2
                      go_wp2
                      go_roundw
                      case rel => exact ⟨M2, _, lc, n2, i + 1, false, rfl, rfl, by go_num, by omega, by have h1 := HL.out; have h2 := HLM.out; have h3 := HN2.out; omega, HM, HLM, HO, HN2, HB, Lib.hid (fun _ => ⟨by have h3 := HN2.out; omega, HLN.out, HGN.out⟩), Lib.hid (fun h => by cases h)⟩
                      case measure => simp [lenV, intOf]; omega
                    | true =>
                      rw [hem, Bool.true_and] at hop
                      rw [hem] at hq hq2
                      clear hem hi9
                      by_cases hl : i + 1 = n2
                      · rw [decide_eq_true (by rw [hl]; exact HN2.out), Bool.true_or] at hop
                        have t1 : ((i : Int) + 1 == (n2 : Int)) = true := by rw [beq_iff_eq]; omega
                        go_upto_region 46 with fail
                        clear t1 hl
                        have HOP := Lib.hid hop
                        clear hop
                        have hin2 : i < (p0 :: M2).length := by have := HN2.out; simp; omega
                        have HAL : Hid (Below wr5.heap.size wr5 (wr5.drew.alloc (.cells #[] 87))) := (belowN (Below.refl _ wr5) 1).trans ((Below.refl _ wr5.drew).alloc (Nat.le_refl _) _)
                        have HOE : Hid (Owns wr5.heap.size 87 3 docC (wr5.drew.alloc (.cells #[] 87)) (.slice (some ⟨wr5.heap.size, 0, none⟩) 0 0) []) := Owns.empty (w := wr5.drew) rfl (Nat.le_refl _)
                        have HT1 : Hid (∀ V, Below wr5.heap.size wr5 V → SliceOf 3 docC V (.slice (some ⟨g, 0, none⟩) i lc) ((p0 :: M2).take i)) := fun V h => ((HO.out.slice docC_len).below h).takeW (by omega)
                        have HT2 : Hid (∀ V, Below wr5.heap.size wr5 V → SliceOf 3 docC V (.slice (cutW (some ⟨g, 0, none⟩) (i + 1) lc 3) (n2 - (i + 1)) (lc - (i + 1))) ((p0 :: M2).drop (i + 1))) := fun V h => ((HO.out.slice docC_len).below h).cutW (by omega)
                        have HB1 : Hid (((p0 :: M2).take i).length ≤ 1000000 ∧ ((p0 :: M2).take i).length + ((p0 :: M2).drop (i + 1)).length ≤ 1000000) := by
                          have h1 := HL.out; have h2 := HLM.out
                          rw [List.length_take, List.length_drop, List.length_cons]; exact ⟨by omega, by omega⟩
                        obtain ⟨hcp, -, hcm⟩ := (HO.out.slice docC_len).capW
                        rw [List.length_cons, ← show n2 = M2.length + 1 from HN2.out] at hcp
                        have hb1 : (i : Int) ≤ (lc : Int) := by omega
                        have hb2 : (i : Int) + 1 ≤ (n2 : Int) := by omega
                        have hb3 : (n2 : Int) ≤ (lc : Int) := by omega
                        have hb4 : i + 1 ≤ n2 := by omega
                        have hb5 : i ≤ lc := by omega
                        have hb6 : (0 : Int) ≤ (i : Int) + 1 := by omega
                        have hb7 : ((i : Int) + 1).toNat = i + 1 := by omega
                        clear hin2 hin c2 hq hq2 hgl
                        go_region_law (first | (refine step_append_slice _ rfl (.tmp 224) (.tmp 227) 84 rfl wr5.heap.size 87 Tryz.underlying84 info_dp rfl (by decide) docC_len (.slice (some ⟨wr5.heap.size, 0, none⟩) 0 0) [] (by simp [Act.eval]) HOE.out (.slice (some ⟨g, 0, none⟩) i lc) ((p0 :: M2).take i) (by simp [Act.eval]) (HT1.out _ HAL.out) (fun y _ => docC_one y) (by have h1 := HB1.out.1; simp only [List.length_nil]; omega) (by decide) (by simp) ?_; intro a8 n8 c8 w8 ho8 hg8; have HO8 := Lib.hid ho8; have HG8 : Hid (Below wr5.heap.size wr5 w8) := HAL.out.trans (below_grown hg8 (by simp) |>.mono (Nat.le_refl _)); clear ho8 hg8) | (refine step_append_slice _ rfl (.tmp 228) (.tmp 232) 84 rfl wr5.heap.size 87 Tryz.underlying84 info_dp rfl (by decide) docC_len (.slice a8 n8 c8) ([] ++ (p0 :: M2).take i) (by simp [Act.eval]) HO8.out (.slice (cutW (some ⟨g, 0, none⟩) (i + 1) lc 3) (n2 - (i + 1)) (lc - (i + 1))) ((p0 :: M2).drop (i + 1)) (by simp [Act.eval]) (HT2.out _ HG8.out) (fun y _ => docC_one y) (by have h1 := HB1.out.2; simp only [List.nil_append]; omega) (by decide) HG8.out.size ?_; intro a9 n9 c9 w9 ho9 hg9; have HO9 := Lib.hid ho9; have HG9 := Lib.hid (own_belowW HG8.out HO8.out hg9 HG8.out.size); clear ho9 hg9))
                        all_goals
                          have HN9 : Hid (n9 = M2.length) := by
                            obtain ⟨_, _, e⟩ := HO9.out.shape
                            rw [strike_eq hi1, List.length_cons, List.length_eraseIdx_of_lt (by have := HN2.out; omega)] at e
                            simp at e
                            have := HN2.out
                            show _ = _; omega
                          have HO10 : Hid (Owns B 87 3 docC w9 (.slice a9 n9 c9) (p0 :: M2.eraseIdx (i - 1))) := by
                            show Owns _ _ _ _ _ _ _
                            rw [← strike_eq hi1]
                            exact HO9.out.base_mono (by have h1 := HB.out.size; have h2 := HBW.out; omega)
                          have HB10 := Lib.hid (HB.out.trans (HG9.out.mono (by have h1 := HB.out.size; have h2 := HBW.out; omega)))
                          have HLE2 : Hid ((M2.eraseIdx (i - 1)).length = M2.length - 1) := by show _ = _; rw [List.length_eraseIdx_of_lt (by have := HN2.out; omega)]
                          have HDV : Hid (delV (M2.eraseIdx (i - 1)) = delV r0) := by show _ = _; rw [delV_erase HOP.out]; exact HM.out
                          have HLN : Hid (M2.length = M.length) := hg2
                          clear hg1 hg2 HO9 HO8 HG8 HG9 HAL HOE HT1 HT2
                          clear hb1 hb2 hb3 hb4 hb5 hb6 hb7 hcp hcm
                          go_wp2
                          go_roundw
                          case rel => exact ⟨M2.eraseIdx (i - 1), a9, c9, n9, i + 1, true, rfl, rfl, by go_num, by omega, by have h1 := HL.out; have h2 := HLM.out; have h3 := HN2.out; omega, HDV, by have h2 := HLM.out; have h3 := HLE2.out; show _ ≤ _; omega, HO10, by have h2 := HLE2.out; have h3 := HN9.out; have h4 := HN2.out; show _ = _; omega, HB10, Lib.hid (fun h => by cases h), Lib.hid (fun _ => by have h2 := HLE2.out; have h3 := HLN.out; have h4 := HN2.out; omega)⟩
                          case measure => have h2 := HN9.out; have h4 := HN2.out; simp [lenV, intOf]; omega
                      · have t1 : ((i : Int) + 1 == (n2 : Int)) = false := by rw [beq_eq_false_iff_ne]; omega
                        have hin2 : i + 1 < (p0 :: M2).length := by have := HN2.out; simp; omega
                        obtain ⟨e2, he2⟩ : ∃ e2, (p0 :: M2)[i + 1]? = some e2 := ⟨_, List.getElem?_eq_getElem hin2⟩
                        rw [decide_eq_false (by have := HN2.out; omega), Bool.false_or, he2] at hop
                        obtain ⟨_, hge, -, -, -, -, hcs, -⟩ := own_store docC_len HO.out he2 (show 0 < 3 by decide)
                        cases hge
                        have c1 : wr5.cell? ⟨g, (i + 1) * 3 + 1, none⟩ = some (.bool e2.hyphen) := hcs 1 _ rfl
                        have m3 : (i : Int) + 1 < (n2 : Int) := by omega
                        have m4 : i + 1 < n2 := by omega
                        have m5 : (0 : Int) ≤ (i : Int) + 1 := by omega
                        have m6 : ((i : Int) + 1).toNat = i + 1 := by omega
                        clear hcs hin2
                        cases hh : e2.hyphen with
                        | true =>
                          have hop : openV M2 (i - 1) = true := by rw [hop]; exact hh
                          rw [hh] at c1
                          go_upto_region 46 with fail
                          clear c1 hh he2
                          have HOP := Lib.hid hop
                          clear hop
                          have hin2 : i < (p0 :: M2).length := by have := HN2.out; simp; omega
                          have HAL : Hid (Below wr5.heap.size wr5 (wr5.drew.alloc (.cells #[] 87))) := (belowN (Below.refl _ wr5) 1).trans ((Below.refl _ wr5.drew).alloc (Nat.le_refl _) _)
                          have HOE : Hid (Owns wr5.heap.size 87 3 docC (wr5.drew.alloc (.cells #[] 87)) (.slice (some ⟨wr5.heap.size, 0, none⟩) 0 0) []) := Owns.empty (w := wr5.drew) rfl (Nat.le_refl _)
                          have HT1 : Hid (∀ V, Below wr5.heap.size wr5 V → SliceOf 3 docC V (.slice (some ⟨g, 0, none⟩) i lc) ((p0 :: M2).take i)) := fun V h => ((HO.out.slice docC_len).below h).takeW (by omega)
                          have HT2 : Hid (∀ V, Below wr5.heap.size wr5 V → SliceOf 3 docC V (.slice (cutW (some ⟨g, 0, none⟩) (i + 1) lc 3) (n2 - (i + 1)) (lc - (i + 1))) ((p0 :: M2).drop (i + 1))) := fun V h => ((HO.out.slice docC_len).below h).cutW (by omega)
                          have HB1 : Hid (((p0 :: M2).take i).length ≤ 1000000 ∧ ((p0 :: M2).take i).length + ((p0 :: M2).drop (i + 1)).length ≤ 1000000) := by
                            have h1 := HL.out; have h2 := HLM.out
                            rw [List.length_take, List.length_drop, List.length_cons]; exact ⟨by omega, by omega⟩
                          obtain ⟨hcp, -, hcm⟩ := (HO.out.slice docC_len).capW
                          rw [List.length_cons, ← show n2 = M2.length + 1 from HN2.out] at hcp
                          have hb1 : (i : Int) ≤ (lc : Int) := by omega
                          have hb2 : (i : Int) + 1 ≤ (n2 : Int) := by omega
                          have hb3 : (n2 : Int) ≤ (lc : Int) := by omega
                          have hb4 : i + 1 ≤ n2 := by omega
                          have hb5 : i ≤ lc := by omega
                          have hb6 : (0 : Int) ≤ (i : Int) + 1 := by omega
                          have hb7 : ((i : Int) + 1).toNat = i + 1 := by omega
                          clear hin2 hin c2 hq hq2 hgl
                          go_region_law (first | (refine step_append_slice _ rfl (.tmp 224) (.tmp 227) 84 rfl wr5.heap.size 87 Tryz.underlying84 info_dp rfl (by decide) docC_len (.slice (some ⟨wr5.heap.size, 0, none⟩) 0 0) [] (by simp [Act.eval]) HOE.out (.slice (some ⟨g, 0, none⟩) i lc) ((p0 :: M2).take i) (by simp [Act.eval]) (HT1.out _ HAL.out) (fun y _ => docC_one y) (by have h1 := HB1.out.1; simp only [List.length_nil]; omega) (by decide) (by simp) ?_; intro a8 n8 c8 w8 ho8 hg8; have HO8 := Lib.hid ho8; have HG8 : Hid (Below wr5.heap.size wr5 w8) := HAL.out.trans (below_grown hg8 (by simp) |>.mono (Nat.le_refl _)); clear ho8 hg8) | (refine step_append_slice _ rfl (.tmp 228) (.tmp 232) 84 rfl wr5.heap.size 87 Tryz.underlying84 info_dp rfl (by decide) docC_len (.slice a8 n8 c8) ([] ++ (p0 :: M2).take i) (by simp [Act.eval]) HO8.out (.slice (cutW (some ⟨g, 0, none⟩) (i + 1) lc 3) (n2 - (i + 1)) (lc - (i + 1))) ((p0 :: M2).drop (i + 1)) (by simp [Act.eval]) (HT2.out _ HG8.out) (fun y _ => docC_one y) (by have h1 := HB1.out.2; simp only [List.nil_append]; omega) (by decide) HG8.out.size ?_; intro a9 n9 c9 w9 ho9 hg9; have HO9 := Lib.hid ho9; have HG9 := Lib.hid (own_belowW HG8.out HO8.out hg9 HG8.out.size); clear ho9 hg9))
                          all_goals
                            have HN9 : Hid (n9 = M2.length) := by
                              obtain ⟨_, _, e⟩ := HO9.out.shape
                              rw [strike_eq hi1, List.length_cons, List.length_eraseIdx_of_lt (by have := HN2.out; omega)] at e
                              simp at e
                              have := HN2.out
                              show _ = _; omega
                            have HO10 : Hid (Owns B 87 3 docC w9 (.slice a9 n9 c9) (p0 :: M2.eraseIdx (i - 1))) := by
                              show Owns _ _ _ _ _ _ _
                              rw [← strike_eq hi1]
                              exact HO9.out.base_mono (by have h1 := HB.out.size; have h2 := HBW.out; omega)
                            have HB10 := Lib.hid (HB.out.trans (HG9.out.mono (by have h1 := HB.out.size; have h2 := HBW.out; omega)))
                            have HLE2 : Hid ((M2.eraseIdx (i - 1)).length = M2.length - 1) := by show _ = _; rw [List.length_eraseIdx_of_lt (by have := HN2.out; omega)]
                            have HDV : Hid (delV (M2.eraseIdx (i - 1)) = delV r0) := by show _ = _; rw [delV_erase HOP.out]; exact HM.out
                            have HLN : Hid (M2.length = M.length) := hg2
                            clear hg1 hg2 HO9 HO8 HG8 HG9 HAL HOE HT1 HT2
                            clear hb1 hb2 hb3 hb4 hb5 hb6 hb7 hcp hcm
                            go_wp2
                            go_roundw
                            case rel => exact ⟨M2.eraseIdx (i - 1), a9, c9, n9, i + 1, true, rfl, rfl, by go_num, by omega, by have h1 := HL.out; have h2 := HLM.out; have h3 := HN2.out; omega, HDV, by have h2 := HLM.out; have h3 := HLE2.out; show _ ≤ _; omega, HO10, by have h2 := HLE2.out; have h3 := HN9.out; have h4 := HN2.out; show _ = _; omega, HB10, Lib.hid (fun h => by cases h), Lib.hid (fun _ => by have h2 := HLE2.out; have h3 := HLN.out; have h4 := HN2.out; omega)⟩
                            case measure => have h2 := HN9.out; have h4 := HN2.out; simp [lenV, intOf]; omega
                        | false =>
                          have hop : openV M2 (i - 1) = false := by rw [hop]; exact hh
                          rw [hh] at c1
                          clear hh he2
                          have HGN : Hid (∀ j, j + 1 < i + 1 → openV M2 j = false) := fun j hj => by
                            by_cases h : j + 1 < i
                            · exact HG3.out j h
                            · obtain rfl : j = i - 1 := by omega
                              exact hop
                          have HLN : Hid (M2.length = M.length) := hg2
                          clear hop hg1 hg2
                          go_wp2
                          go_roundw
                          case rel => exact ⟨M2, _, lc, n2, i + 1, false, rfl, rfl, by go_num, by omega, by have h1 := HL.out; have h2 := HLM.out; have h3 := HN2.out; omega, HM, HLM, HO, HN2, HB, Lib.hid (fun _ => ⟨by have h3 := HN2.out; omega, HLN.out, HGN.out⟩), Lib.hid (fun h => by cases h)⟩
                          case measure => simp [lenV, intOf]; omega
                  · have d1 : decide ((i : Int) < (n2 : Int)) = false := decide_eq_false (by omega)
                    have d1' : decide (i < n2) = false := decide_eq_false hlt
                    have HG4 : Hid (∀ j, openV M2 j = false) := fun j => by
                      by_cases hj : j + 1 < i
                      · exact HG3.out j hj
                      · exact openV_out (by have := HN2.out; omega)
                    have HLN : Hid (M2.length = M.length) := hg2
                    clear hi9 hg1 hg2
                    go_wp2
                    go_roundw
                    case rel => exact ⟨M2, lo, lc, n2, false, rfl, rfl, HM, by have h1 := HL.out; have h2 := HLM.out; show _ ≤ _; omega, HO, HN2, HB, Lib.hid (fun _ => HG4.out)⟩
                    case measure => have h1 := HLN.out; have h2 := HN2.out; have h3 := HN.out; simp [lenV, boolN]; omega

end Go.Proofs.YtecffghcpknmjaaGreatDoor
