/- Walks: the law of DiffApart; its conditions stand in the theorem. -/
import Derived.Test.YtmcjpmogjmnfpaaL38
import Derived.Test.YtmcjpmogjmnfpaaL34
import Derived.Test.YtmcjpmogjmnfpaaL22
import Derived.Test.YtmcjpmogjmnfpaaLC
namespace Go.Proofs.Ytmcjpmogjmnfpaa
open Go Go.RowKit

theorem refPins_len (l : List Edit) : ∀ a : List Pin, (refPins a l).length ≤ a.length + l.length := by
  induction l with
  | nil => intro a; simp [refPins]
  | cons e l ih =>
    intro a
    have h1 := ih (stepP a e)
    have h2 : (stepP a e).length ≤ a.length + 1 := by
      unfold stepP
      rw [List.length_append]
      have h3 := List.length_filter_le (fun p : Pin => decide (p.key ≠ e.key)) a
      split
      · exact Nat.add_le_add_right h3 1
      · exact Nat.le_trans h3 (Nat.le_succ _)
    simp only [refPins, List.foldl_cons, List.length_cons] at h1 ⊢
    omega
theorem outL_len (a : Lock) (l : List Edit) : (outL a l).pins.length ≤ a.pins.length + l.length := by
  have h1 := refPins_len l a.pins
  have h2 := keysP_len (refPins a.pins l)
  show (refRow (refPins a.pins l)).length ≤ _
  unfold refRow
  rw [List.length_map]
  omega
theorem applyR_out {a b : Lock} {l : List Edit} (h : applyR a l = some b) : b = outL a l := by
  unfold applyR at h
  split at h
  · cases h; rfl
  · cases h
theorem noLock_sm : lockSm noLock := ⟨⟨by decide, by decide, by decide⟩, fun p hp => by cases hp⟩
theorem applyR_sm {a : Lock} {l : List Edit} (ha : lockSm a) (hl : ∀ e ∈ l, editSm e) : lockSm ((applyR a l).getD noLock) := by
  cases h : applyR a l with
  | none => exact noLock_sm
  | some b => rw [applyR_out h]; exact outL_sm ha hl
theorem applyR_len (a : Lock) (l : List Edit) : ((applyR a l).getD noLock).pins.length ≤ a.pins.length + l.length := by
  cases h : applyR a l with
  | none => exact Nat.zero_le _
  | some b => rw [applyR_out h]; exact outL_len a l
theorem mergeKE_len : ∀ l m : List Edit, (mergeKE l m).length ≤ l.length + m.length
  | [], [] => by rw [mergeKE]; simp
  | a :: l, [] => by
    have h1 := mergeKE_len l []
    rw [mergeKE]
    simp only [List.length_cons, List.length_nil] at h1 ⊢
    omega
  | [], b :: m => by
    have h1 := mergeKE_len [] m
    rw [mergeKE]
    simp only [List.length_cons, List.length_nil] at h1 ⊢
    omega
  | a :: l, b :: m => by
    have h1 := mergeKE_len l (b :: m)
    have h2 := mergeKE_len (a :: l) m
    have h3 := mergeKE_len l m
    rw [mergeKE]
    simp only [List.length_cons] at h1 h2 ⊢
    split
    · simp only [List.length_cons]; omega
    · split
      · simp only [List.length_cons]; omega
      · simp only [List.length_cons]; omega
termination_by l m => l.length + m.length
theorem flat_lenE (f : Key → List Edit) (hf : ∀ k, (f k).length ≤ 1) : ∀ l : List Key, (l.flatMap f).length ≤ l.length
  | [] => by simp
  | k :: l => by
    have h1 := flat_lenE f hf l
    have h2 := hf k
    rw [List.flatMap_cons, List.length_append, List.length_cons]
    omega
theorem joinE_len {l m : List Edit} (h : mayE l = true) (h' : mayE m = true) : (joinE l m).length ≤ l.length + m.length := by
  unfold joinE
  rw [mergeE_eq _ l m (riseE_of_may h) (riseE_of_may h')]
  exact Nat.le_trans (flat_lenE _ (fun k => oneJ_le k _ _) _) (mergeKE_len l m)
theorem joinE_sm {l m : List Edit} (h : mayE l = true) (h' : mayE m = true) (hl : ∀ e ∈ l, editSm e) (hm : ∀ e ∈ m, editSm e) : ∀ e ∈ joinE l m, editSm e := by
  intro e he
  rw [mem_joinE (riseE_of_may h) (riseE_of_may h')] at he
  cases h3 : findE l e.key with
  | none =>
    cases h4 : findE m e.key with
    | none => rw [h3, h4] at he; simp [oneJ] at he
    | some y => rw [h3, h4] at he; simp only [oneJ, List.mem_cons, List.not_mem_nil, or_false] at he; rw [he]; exact hm y (findE_in h4)
  | some x =>
    cases h4 : findE m e.key with
    | none => rw [h3, h4] at he; simp only [oneJ, List.mem_cons, List.not_mem_nil, or_false] at he; rw [he]; exact hl x (findE_in h3)
    | some y =>
      have sx := hl x (findE_in h3)
      have sy := hm y (findE_in h4)
      have kx := findE_key h3
      rw [h3, h4] at he
      simp only [oneJ] at he
      split at he
      · simp at he
      · split at he
        · simp only [List.mem_cons, List.not_mem_nil, or_false] at he
          generalize e.key = k at *
          subst he
          exact ⟨by rw [← kx]; exact sx.1, sx.2.1, sy.2.2⟩
        · simp at he
/-- What is joined of two rows, where they are joined. -/
theorem joined_facts {l m j : List Edit} (h : joinR l m = some j) (hl : ∀ e ∈ l, editSm e) (hm : ∀ e ∈ m, editSm e) : mayE j = true ∧ j.length ≤ l.length + m.length ∧ ∀ e ∈ j, editSm e := by
  unfold joinR at h
  split at h
  · rename_i h0
    cases h
    simp only [Bool.and_eq_true] at h0
    exact ⟨joinE_may h0.1.1 h0.1.2, joinE_len h0.1.1 h0.1.2, joinE_sm h0.1.1 h0.1.2 hl hm⟩
  · cases h
/-- Whether the edits looked at so far go together. -/
def togP (l m : List Edit) (i : Nat) : Bool := mayE l && mayE m && (l.take i).all fun x => m.all (togB x)
theorem togP_zero (l m : List Edit) : togP l m 0 = (mayE l && mayE m) := by simp [togP]
theorem togP_all (l m : List Edit) : togP l m l.length = togetherB l m := by simp [togP, togetherB]
theorem togP_succ {l m : List Edit} {i : Nat} (hi : i < l.length) : togP l m (i + 1) = (togP l m i && (m.take m.length).all (togB l[i])) := by
  unfold togP
  rw [List.take_succ_eq_append_getElem hi, List.all_append, List.take_length, ← Bool.and_assoc]
  simp
theorem tog_succ {m : List Edit} {x : Edit} {j : Nat} (hj : j < m.length) (t : Bool) : (t && (m.take (j + 1)).all (togB x)) = (t && (m.take j).all (togB x) && togB x m[j]) := by
  rw [List.take_succ_eq_append_getElem hj, List.all_append, ← Bool.and_assoc]
  simp


attribute [local go_sem ↓] eqg_pinE eql_pinB eqg_keyE neq_keyB in
set_option maxRecDepth 100000 in
set_option maxHeartbeats 16000000 in
theorem diffApart_any (l m : List Edit) (a : Lock) (lv mv av : Value) (w : World) (hlv : SliceOf 18 editC w lv l) (hmv : SliceOf 18 editC w mv m) (hav : SliceOf 6 pinC w av a.pins) (hsl : ∀ e ∈ l, editSm e) (hsm : ∀ e ∈ m, editSm e) (hsa : lockSm a) :
    Calls Try.prog 6 #[lv, mv, .agg (lockC a av).toArray] w fun e w' => e = .returned (.bool true) ∧ Below w.heap.size w w' := by
  have hlm : l.length ≤ 9223372036854775807 := by obtain ⟨a, c, e, h2, h3, -⟩ := hlv; exact Nat.le_trans h2 (Nat.le_trans h3 (by decide))
  have hmm : m.length ≤ 9223372036854775807 := by obtain ⟨a, c, e, h2, h3, -⟩ := hmv; exact Nat.le_trans h2 (Nat.le_trans h3 (by decide))
  obtain ⟨lo, lc, rfl⟩ := hlv.shape
  obtain ⟨mo, mc, rfl⟩ := hmv.shape
  obtain ⟨ao, ac, rfl⟩ := hav.shape
  have HA := Lib.hid hav
  have HV := Lib.hid hlv
  have HU := Lib.hid hmv
  have HSA := Lib.hid hsa
  have HSL := Lib.hid hsl
  have HSM := Lib.hid hsm
  clear hav hlv hmv hsa hsl hsm
  unfold lockC
  go_enter Try.func6, Try.ntmps6
  go_upto_region 1 with fail
  refine wp_world ?_
  intro W hW
  have x5 : Box W w.heap.size [.string a.root.group, .string a.root.artifact, .string a.root.version, .slice ao a.pins.length ac] := by rw [hW]; exact Box.new w _ _ _ rfl
  have hB : Below w.heap.size w W := by rw [hW]; exact (Below.refl _ w).alloc (Nat.le_refl _) _
  clear hW
  have HX0 := Lib.hid x5
  have HB0 := Lib.hid hB
  have s0 := hB.size
  clear x5 hB
  go_wp2_with fail
  refine (lightE_any l (.slice lo l.length lc) W (HV.out.below HB0.out)).mono ?_
  rintro e w1 ⟨b1, rfl, ht, hb⟩
  have HX1 := Lib.hid (HX0.out.below hb HX0.out.lt)
  have HB1 := Lib.hid (HB0.out.trans (hb.mono s0))
  have s1 := HB1.out.size
  have HT1 := Lib.hid ht
  clear hb ht HX0
  cases b1 with
  | false =>
    go_wp2_with fail
    refine (lives_any _).mono ?_
    rintro e w9 ⟨rfl, hb9⟩
    have HB9 := Lib.hid (HB1.out.trans (hb9.mono s1))
    clear hb9
    go_wp2
    go_ret
    exact ⟨rfl, HB9.out⟩
  | true =>
  have HN1 := Lib.hid (HT1.out (by trivial))
  go_wp2_with fail
  refine (lightE_any m (.slice mo m.length mc) w1 (HU.out.below HB1.out)).mono ?_
  rintro e w2 ⟨b2, rfl, ht, hb⟩
  have HX2 := Lib.hid (HX1.out.below hb HX1.out.lt)
  have HB2 := Lib.hid (HB1.out.trans (hb.mono s1))
  have s2 := HB2.out.size
  have HT2 := Lib.hid ht
  clear hb ht HX1
  cases b2 with
  | false =>
    go_wp2_with fail
    refine (lives_any _).mono ?_
    rintro e w9 ⟨rfl, hb9⟩
    have HB9 := Lib.hid (HB2.out.trans (hb9.mono s2))
    clear hb9
    go_wp2
    go_ret
    exact ⟨rfl, HB9.out⟩
  | true =>
  have HN2 := Lib.hid (HT2.out (by trivial))
  have y0 := HX2.out.cell 0 _ rfl
  have y1 := HX2.out.cell 1 _ rfl
  have y2 := HX2.out.cell 2 _ rfl
  have y3 := HX2.out.cell 3 _ rfl
  go_wp2_with fail
  refine (light_any a (.slice ao a.pins.length ac) w2 (HA.out.below HB2.out)).mono ?_
  rintro e w3 ⟨b3, rfl, ht, hb⟩
  have HX3 := Lib.hid (HX2.out.below hb HX2.out.lt)
  have HB3 := Lib.hid (HB2.out.trans (hb.mono s2))
  have s3 := HB3.out.size
  have HT3 := Lib.hid ht
  clear hb ht y0 y1 y2 y3 HX2
  cases b3 with
  | false =>
    go_wp2_with fail
    refine (lives_any _).mono ?_
    rintro e w9 ⟨rfl, hb9⟩
    have HB9 := Lib.hid (HB3.out.trans (hb9.mono s3))
    clear hb9
    go_wp2
    go_ret
    exact ⟨rfl, HB9.out⟩
  | true =>
  have HN3 := Lib.hid (HT3.out (by trivial))
  clear HT1 HT2 HT3
  go_upto_region 3 with fail
  have HM1 : Hid (∀ V, Below w.heap.size w V → Calls Try.prog 19 #[.slice lo l.length lc] V fun e w' => e = .returned (.bool (mayE l)) ∧ Below V.heap.size V w') := fun V h => refMay_any l _ V (HV.out.below h)
  have HM2 : Hid (∀ V, Below w.heap.size w V → Calls Try.prog 19 #[.slice mo m.length mc] V fun e w' => e = .returned (.bool (mayE m)) ∧ Below V.heap.size V w') := fun V h => refMay_any m _ V (HU.out.below h)
  go_cut [7] from 34 to 39 (fun u wx => u = .bool (mayE l && mayE m) ∧ Below w3.heap.size w3 wx)
  case first =>
    generalize mayE l = ma at *
    generalize mayE m = mb at *
    go_wp2_with fail
    refine (HM1.out _ HB3.out).mono ?_
    rintro e w4 ⟨rfl, hb⟩
    have HBx := Lib.hid hb
    have HB4 := Lib.hid (HB3.out.trans (hb.mono s3))
    have s4 := HB4.out.size
    clear hb
    cases ma with
    | false =>
      go_wp2_with fail
      go_meet
      exact ⟨rfl, HBx.out⟩
    | true =>
      go_wp2_with fail
      refine (HM2.out _ HB4.out).mono ?_
      rintro e w5 ⟨rfl, hb⟩
      have HBy := Lib.hid (HBx.out.trans (hb.mono HBx.out.size))
      clear hb
      go_wp2_with fail
      go_meet
      exact ⟨rfl, HBy.out⟩
  case rest =>
    obtain ⟨rfl, hb⟩ := hcut
    have HX4 := Lib.hid (HX3.out.below hb HX3.out.lt)
    have HB4 := Lib.hid (HB3.out.trans (hb.mono s3))
    have s4 := HB4.out.size
    clear hb HX3 HM1 HM2
    go_wp2_with fail
    go_loopw [42, 7] (fun iv tv wr => ∃ i : Nat, i ≤ l.length ∧ iv = .int .i64 i ∧ tv = .bool (togP l m i) ∧ Below wc.heap.size wc wr) (fun iv _ _ => l.length - (intOf iv).toNat)
    case atStart => exact ⟨0, Nat.zero_le _, rfl, by rw [togP_zero], Below.refl _ _⟩
    case round =>
      obtain ⟨wo, rfl⟩ : ∃ wo : World, wo = wr := ⟨_, rfl⟩
      obtain ⟨i, hi, rfl, rfl, hb⟩ := hrel
      have HBO := Lib.hid (HB4.out.trans (hb.mono s4))
      have HBi := Lib.hid hb
      have so := HBO.out.size
      clear hb
      by_cases hlt : i < l.length
      · have hltI : (i : Int) < (l.length : Int) := by omega
        obtain ⟨g, o, rfl, hg, hc⟩ := (HV.out.below HBO.out).at hlt
        have HRG : Hid (wo.rangeAt g (o + i * 18) (editC l[i])) := fun q u h => hc q u h
        have hx9 : Hid (Box (wo.alloc (.cells #[.string ⟨#[]⟩, .string ⟨#[]⟩, .string ⟨#[]⟩, .string ⟨#[]⟩, .bool false, .bool false, .string ⟨#[]⟩, .string ⟨#[]⟩, .string ⟨#[]⟩, .string ⟨#[]⟩, .string ⟨#[]⟩, .int .i64 0, .string ⟨#[]⟩, .string ⟨#[]⟩, .string ⟨#[]⟩, .string ⟨#[]⟩, .string ⟨#[]⟩, .int .i64 0] 46)) wo.heap.size [.string ⟨#[]⟩, .string ⟨#[]⟩, .string ⟨#[]⟩, .string ⟨#[]⟩, .bool false, .bool false, .string ⟨#[]⟩, .string ⟨#[]⟩, .string ⟨#[]⟩, .string ⟨#[]⟩, .string ⟨#[]⟩, .int .i64 0, .string ⟨#[]⟩, .string ⟨#[]⟩, .string ⟨#[]⟩, .string ⟨#[]⟩, .string ⟨#[]⟩, .int .i64 0]) := Box.new wo _ _ _ rfl
        have HTS := Lib.hid (togP_succ (m := m) hlt)
        clear hc
        generalize l[i] = x at *
        generalize togP l m i = t0 at *
        go_upto_region 7 with (first | ((with_reducible show wpList _ _ _ (Oper.mk _ (Op.load 46 (.tmp 44)) _ _ _ _ :: _) _ _); refine wpList_load_mid rfl 46 (.tmp 44) rfl g (o + i * 18) rfl (editC x) _ HRG.out Try.underlying46 rfl size_edit ?_) | ((with_reducible show wpList _ _ _ (Oper.mk none (Op.store 46 (.tmp 9) (.tmp 45)) _ _ _ _ :: _) _ _); refine wpList_store_box rfl 46 (.tmp 9) (.tmp 45) rfl wo.heap.size [.string ⟨#[]⟩, .string ⟨#[]⟩, .string ⟨#[]⟩, .string ⟨#[]⟩, .bool false, .bool false, .string ⟨#[]⟩, .string ⟨#[]⟩, .string ⟨#[]⟩, .string ⟨#[]⟩, .string ⟨#[]⟩, .int .i64 0, .string ⟨#[]⟩, .string ⟨#[]⟩, .string ⟨#[]⟩, .string ⟨#[]⟩, .string ⟨#[]⟩, .int .i64 0] (editC x) rfl rfl hx9.out rfl size_edit editC_one ?_; intro W5 v0 hg0))
        have X9 := Lib.hid v0
        have HB5 := Lib.hid (((Below.refl _ wo).alloc (Nat.le_refl _) _).trans (below_grown hg0 (by simp) |>.mono (by omega)))
        have s5 := HB5.out.size
        have HBW5 := Lib.hid (HBO.out.trans (HB5.out.mono so))
        clear hx9 v0 hg0 HRG hg
        simp only [Act.put]
        go_wp2_with fail
        go_loopw [48, 7] (fun jv tv wr => ∃ j : Nat, j ≤ m.length ∧ jv = .int .i64 j ∧ tv = .bool (t0 && (m.take j).all (togB x)) ∧ Below W5.heap.size W5 wr) (fun jv _ _ => m.length - (intOf jv).toNat)
        case atStart => exact ⟨0, Nat.zero_le _, rfl, by simp, Below.refl _ _⟩
        case round =>
          obtain ⟨wk, rfl⟩ : ∃ wk : World, wk = wr := ⟨_, rfl⟩
          obtain ⟨j, hj, rfl, rfl, hb⟩ := hrel
          have HBK := Lib.hid hb
          have HBP := Lib.hid (HBW5.out.trans (hb.mono (by omega)))
          have X9k := Lib.hid (X9.out.below hb X9.out.lt)
          have sk := HBP.out.size
          have sk5 := hb.size
          clear hb
          by_cases hjl : j < m.length
          · have hjI : (j : Int) < (m.length : Int) := by omega
            obtain ⟨g2, o2, rfl, hg2, hc⟩ := (HU.out.below HBP.out).at hjl
            have HRG : Hid (wk.rangeAt g2 (o2 + j * 18) (editC m[j])) := fun q u h => hc q u h
            have hx11 : Hid (Box (wk.alloc (.cells #[.string ⟨#[]⟩, .string ⟨#[]⟩, .string ⟨#[]⟩, .string ⟨#[]⟩, .bool false, .bool false, .string ⟨#[]⟩, .string ⟨#[]⟩, .string ⟨#[]⟩, .string ⟨#[]⟩, .string ⟨#[]⟩, .int .i64 0, .string ⟨#[]⟩, .string ⟨#[]⟩, .string ⟨#[]⟩, .string ⟨#[]⟩, .string ⟨#[]⟩, .int .i64 0] 46)) wk.heap.size [.string ⟨#[]⟩, .string ⟨#[]⟩, .string ⟨#[]⟩, .string ⟨#[]⟩, .bool false, .bool false, .string ⟨#[]⟩, .string ⟨#[]⟩, .string ⟨#[]⟩, .string ⟨#[]⟩, .string ⟨#[]⟩, .int .i64 0, .string ⟨#[]⟩, .string ⟨#[]⟩, .string ⟨#[]⟩, .string ⟨#[]⟩, .string ⟨#[]⟩, .int .i64 0]) := Box.new wk _ _ _ rfl
            have HTJ := Lib.hid (tog_succ (x := x) hjl t0)
            clear hc
            generalize m[j] = yy at *
            generalize (t0 && (m.take j).all (togB x)) = t1 at *
            go_upto_region 10 with (first | ((with_reducible show wpList _ _ _ (Oper.mk _ (Op.load 46 (.tmp 50)) _ _ _ _ :: _) _ _); refine wpList_load_mid rfl 46 (.tmp 50) rfl g2 (o2 + j * 18) rfl (editC yy) _ HRG.out Try.underlying46 rfl size_edit ?_) | ((with_reducible show wpList _ _ _ (Oper.mk none (Op.store 46 (.tmp 11) (.tmp 51)) _ _ _ _ :: _) _ _); refine wpList_store_box rfl 46 (.tmp 11) (.tmp 51) rfl wk.heap.size [.string ⟨#[]⟩, .string ⟨#[]⟩, .string ⟨#[]⟩, .string ⟨#[]⟩, .bool false, .bool false, .string ⟨#[]⟩, .string ⟨#[]⟩, .string ⟨#[]⟩, .string ⟨#[]⟩, .string ⟨#[]⟩, .int .i64 0, .string ⟨#[]⟩, .string ⟨#[]⟩, .string ⟨#[]⟩, .string ⟨#[]⟩, .string ⟨#[]⟩, .int .i64 0] (editC yy) rfl rfl hx11.out rfl size_edit editC_one ?_; intro W6 v1 hg1))
            have X11 := Lib.hid v1
            have HB6 := Lib.hid (((Below.refl _ wk).alloc (Nat.le_refl _) _).trans (below_grown hg1 (by simp) |>.mono (by omega)))
            have s6 := HB6.out.size
            have X9m := Lib.hid (X9k.out.below HB6.out X9k.out.lt)
            have HBR : Hid (Below W5.heap.size W5 W6) := HBK.out.trans (HB6.out.mono sk5)
            clear hx11 v1 hg1 HRG hg2 X9k
            obtain ⟨k1, had1, has1, old1, new1⟩ := x
            obtain ⟨k2, had2, has2, old2, new2⟩ := yy
            have HTG : Hid (togB ⟨k1, had1, has1, old1, new1⟩ ⟨k2, had2, has2, old2, new2⟩ = (!keyEq k1 k2 || ((has1 == had2) && pinEq new1 old2))) := by show _ = _; unfold togB keyEq pinEq; simp
            simp only [Act.put]
            cases t1 with
            | false =>
              have HF : Hid ((t0 && (m.take (j + 1)).all (togB ⟨k1, had1, has1, old1, new1⟩)) = false) := by show _ = _; rw [HTJ.out]; rfl
              go_wp2
              go_roundw
              case rel => exact ⟨j + 1, hjl, by go_num, by rw [HF.out], HBR.out⟩
              case measure => simp [intOf]; omega
            | true =>
              have HF : Hid ((t0 && (m.take (j + 1)).all (togB ⟨k1, had1, has1, old1, new1⟩)) = (!keyEq k1 k2 || ((has1 == had2) && pinEq new1 old2))) := by show _ = _; rw [HTJ.out, HTG.out]; rfl
              have n0 := X9m.out.cell 0 _ rfl
              have q0 := X11.out.cell 0 _ rfl
              have n1 := X9m.out.cell 1 _ rfl
              have q1 := X11.out.cell 1 _ rfl
              have n2 := X9m.out.cell 2 _ rfl
              have q2 := X11.out.cell 2 _ rfl
              have n3 := X9m.out.cell 3 _ rfl
              have q3 := X11.out.cell 3 _ rfl
              have n5 := X9m.out.cell 5 _ rfl
              have q4 := X11.out.cell 4 _ rfl
              have n12 := X9m.out.cell 12 _ rfl
              have q6 := X11.out.cell 6 _ rfl
              have n13 := X9m.out.cell 13 _ rfl
              have q7 := X11.out.cell 7 _ rfl
              have n14 := X9m.out.cell 14 _ rfl
              have q8 := X11.out.cell 8 _ rfl
              have n15 := X9m.out.cell 15 _ rfl
              have q9 := X11.out.cell 9 _ rfl
              have n16 := X9m.out.cell 16 _ rfl
              have q10 := X11.out.cell 10 _ rfl
              have n17 := X9m.out.cell 17 _ rfl
              have q11 := X11.out.cell 11 _ rfl
              have ln := X9m.out.lt
              have lq := X11.out.lt
              obtain ⟨d1, hd1⟩ : ∃ d, d = keyEq k1 k2 := ⟨_, rfl⟩
              obtain ⟨d2, hd2⟩ : ∃ d, d = (has1 == had2) := ⟨_, rfl⟩
              obtain ⟨d3, hd3⟩ : ∃ d, d = pinEq new1 old2 := ⟨_, rfl⟩
              rw [← hd1, ← hd2, ← hd3] at HF
              have e1 := hd1.symm
              have e2 := hd2.symm
              have e3 := hd3.symm
              clear hd1 hd2 hd3 HTG HTJ
              cases d1
              all_goals cases d2
              all_goals cases d3
              all_goals go_wp2
              all_goals go_roundw
              all_goals first | exact ⟨j + 1, hjl, by go_num, by rw [HF.out]; rfl, HBR.out⟩ | (simp [intOf]; omega)
          · obtain rfl : j = m.length := by omega
            have HF : Hid (togP l m (i + 1) = (t0 && (m.take m.length).all (togB x))) := HTS.out
            clear hjl
            go_wp2
            go_roundw
            case rel => exact ⟨i + 1, hlt, by go_num, by rw [HF.out], HBi.out.trans ((HB5.out.trans (HBK.out.mono s5)).mono HBi.out.size)⟩
            case measure => simp [intOf]; omega
      · obtain rfl : i = l.length := by omega
        have HTO : Hid (togP l m l.length = (joinR l m).isSome) := by show _ = _; rw [togP_all, together_same]
        rw [HTO.out]
        have HX5 := Lib.hid (HX4.out.below HBi.out HX4.out.lt)
        obtain ⟨r, hr⟩ : ∃ r, r = joinR l m := ⟨_, rfl⟩
        obtain ⟨R1, hR1⟩ : ∃ r, r = applyR a l := ⟨_, rfl⟩
        have HJN : Hid (Calls Try.prog 20 #[.slice lo l.length lc, .slice mo m.length mc] wo (JoinOut wo r)) := by rw [hr]; exact join_any2 l m _ _ wo (HV.out.below HBO.out) (HU.out.below HBO.out) (by have h1 := HN1.out; have h2 := HN2.out; omega)
        have HJF : Hid (∀ j, r = some j → mayE j = true ∧ j.length ≤ l.length + m.length ∧ ∀ e ∈ j, editSm e) := fun j h => joined_facts (hr ▸ h) HSL.out HSM.out
        have HJD : Hid (∀ j b c, r = some j → R1 = some b → applyR b m = some c → applyR a j = some c) := fun j b c h1 h2 h3 => joined_does (hr ▸ h1) (hR1 ▸ h2) h3
        have HBS : Hid (lockSm (R1.getD noLock)) := by rw [hR1]; exact applyR_sm HSA.out HSL.out
        have HBL : Hid ((R1.getD noLock).pins.length ≤ a.pins.length + l.length) := by rw [hR1]; exact applyR_len a l
        have HP1 : Hid (∀ V, Below w.heap.size w V → Calls Try.prog 14 #[.agg #[.string a.root.group, .string a.root.artifact, .string a.root.version, .slice ao a.pins.length ac], .slice lo l.length lc] V (ApplyX V (R1.getD noLock) (.int .i64 (errI R1)))) := fun V h => by
          have h1 := apply_any a l (.slice ao a.pins.length ac) (.slice lo l.length lc) V (HA.out.below h) (HV.out.below h) HSA.out HSL.out (by have h1 := HN1.out; have h3 := HN3.out; omega)
          rw [← hR1] at h1
          exact h1.mono fun _ _ h => h.x
        obtain ⟨R2, hR2⟩ : ∃ r, r = applyR (R1.getD noLock) m := ⟨_, rfl⟩
        have HR2 := Lib.hid hR2
        have HP2 : Hid (∀ V bo bc, Below w.heap.size w V → SliceOf 6 pinC V (.slice bo (R1.getD noLock).pins.length bc) (R1.getD noLock).pins → Calls Try.prog 14 #[.agg #[.string (R1.getD noLock).root.group, .string (R1.getD noLock).root.artifact, .string (R1.getD noLock).root.version, .slice bo (R1.getD noLock).pins.length bc], .slice mo m.length mc] V (ApplyX V (R2.getD noLock) (.int .i64 (errI R2)))) := fun V bo bc h hb => by
          have h1 := apply_any (R1.getD noLock) m (.slice bo (R1.getD noLock).pins.length bc) (.slice mo m.length mc) V hb (HU.out.below h) HBS.out HSM.out (by have h1 := HN1.out; have h2 := HN2.out; have h3 := HN3.out; have h4 := HBL.out; omega)
          rw [← hR2] at h1
          exact h1.mono fun _ _ h => h.x
        rw [← hr]
        clear hlt HTO HX4 hr hR1 hR2 HBS HBL
        have e1n : errI (none : Option Lock) = 1 := rfl
        have e1s : ∀ x : Lock, errI (some x) = 0 := fun _ => rfl
        cases r with
        | none =>
          have HJ0 : Hid (Calls Try.prog 20 #[.slice lo l.length lc, .slice mo m.length mc] wo fun e w' => ∃ jo jc, e = .returned (.tuple #[.slice jo 0 jc, .bool false]) ∧ Below wo.heap.size wo w') := HJN.out.mono fun _ _ ⟨jo, jc, h1, _, h3⟩ => ⟨jo, jc, h1, h3⟩
          clear HJN HJF HJD
          simp only [Option.isSome_none]
          go_wp2_with fail
          refine HJ0.out.mono ?_
          rintro e w7 ⟨jo, jc, rfl, hb⟩
          have HX7 := Lib.hid (HX5.out.below hb HX5.out.lt)
          have HB7 := Lib.hid (HBO.out.trans (hb.mono so))
          have s7 := HB7.out.size
          clear hb HX5 HJ0
          have y0 := HX7.out.cell 0 _ rfl
          have y1 := HX7.out.cell 1 _ rfl
          have y2 := HX7.out.cell 2 _ rfl
          have y3 := HX7.out.cell 3 _ rfl
          go_wp2_with fail
          refine (HP1.out _ HB7.out).mono ?_
          rintro e w8 ⟨bo, bc, rfl, hs8, hb⟩
          have HX8 := Lib.hid (HX7.out.below hb HX7.out.lt)
          have HB8 := Lib.hid (HB7.out.trans (hb.mono s7))
          have s8 := HB8.out.size
          have HS8 := Lib.hid hs8
          clear hb hs8 y0 y1 y2 y3 HX7 HP1
          go_upto_region 17 with fail
          refine wp_world ?_
          intro W9 hW9
          have x14 : Box W9 w8.heap.size [.string (R1.getD noLock).root.group, .string (R1.getD noLock).root.artifact, .string (R1.getD noLock).root.version, .slice bo (R1.getD noLock).pins.length bc] := by rw [hW9]; exact Box.new w8 [.string (R1.getD noLock).root.group, .string (R1.getD noLock).root.artifact, .string (R1.getD noLock).root.version, .slice bo (R1.getD noLock).pins.length bc] _ _ rfl
          have hb : Below w8.heap.size w8 W9 := by rw [hW9]; exact (Below.refl _ w8).alloc (Nat.le_refl _) _
          clear hW9
          have HX9 := Lib.hid (HX8.out.below hb HX8.out.lt)
          have HX14 := Lib.hid x14
          have HB9 := Lib.hid (HB8.out.trans (hb.mono s8))
          have s9 := HB9.out.size
          have HS9 := Lib.hid (HS8.out.below hb)
          clear hb x14 HX8 HS8
          have y0 := HX14.out.cell 0 _ rfl
          have y1 := HX14.out.cell 1 _ rfl
          have y2 := HX14.out.cell 2 _ rfl
          have y3 := HX14.out.cell 3 _ rfl
          go_wp2_with fail
          refine (HP2.out _ bo bc HB9.out HS9.out).mono ?_
          rintro e w10 ⟨co, cc, rfl, hs10, hb⟩
          have HX10 := Lib.hid (HX9.out.below hb HX9.out.lt)
          have HB10 := Lib.hid (HB9.out.trans (hb.mono s9))
          have s10 := HB10.out.size
          have HS10 := Lib.hid hs10
          clear hb hs10 y0 y1 y2 y3 HX9 HX14 HS9 HP2
          go_upto_region 18 with fail
          refine wp_world ?_
          intro W11 hW11
          have x16 : Box W11 w10.heap.size [.string (R2.getD noLock).root.group, .string (R2.getD noLock).root.artifact, .string (R2.getD noLock).root.version, .slice co (R2.getD noLock).pins.length cc] := by rw [hW11]; exact Box.new w10 [.string (R2.getD noLock).root.group, .string (R2.getD noLock).root.artifact, .string (R2.getD noLock).root.version, .slice co (R2.getD noLock).pins.length cc] _ _ rfl
          have hb : Below w10.heap.size w10 W11 := by rw [hW11]; exact (Below.refl _ w10).alloc (Nat.le_refl _) _
          clear hW11
          have HX11 := Lib.hid (HX10.out.below hb HX10.out.lt)
          have HX16 := Lib.hid x16
          have HB11 := Lib.hid (HB10.out.trans (hb.mono s10))
          have s11 := HB11.out.size
          have HS11 := Lib.hid (HS10.out.below hb)
          clear hb x16 HX10 HS10
          go_wp2_with fail
          refine (lives_any _).mono ?_
          rintro e w9 ⟨rfl, hb9⟩
          have HB9 := Lib.hid (HB11.out.trans (hb9.mono s11))
          clear hb9
          go_wp2
          go_ret
          exact ⟨rfl, HB9.out⟩
        | some j =>
          obtain ⟨hj1, hj2, hj3⟩ := HJF.out j rfl
          have HJ1 := Lib.hid hj1
          have HJ2 := Lib.hid hj2
          have HJ3 := Lib.hid hj3
          have HJD' : Hid (∀ b c, R1 = some b → applyR b m = some c → applyR a j = some c) := fun b c h1 h2 => HJD.out j b c rfl h1 h2
          have HJ0 : Hid (Calls Try.prog 20 #[.slice lo l.length lc, .slice mo m.length mc] wo fun e w' => ∃ jo jc, e = .returned (.tuple #[.slice jo j.length jc, .bool true]) ∧ SliceOf 18 editC w' (.slice jo j.length jc) j ∧ Below wo.heap.size wo w') := HJN.out
          clear HJN HJF HJD hj1 hj2 hj3
          simp only [Option.isSome_some]
          go_wp2_with fail
          refine HJ0.out.mono ?_
          rintro e w6 ⟨jo, jc, rfl, hsj, hb⟩
          have HX6 := Lib.hid (HX5.out.below hb HX5.out.lt)
          have HB6 := Lib.hid (HBO.out.trans (hb.mono so))
          have s6 := HB6.out.size
          have HSJ := Lib.hid hsj
          have HMJ : Hid (Calls Try.prog 19 #[.slice jo j.length jc] w6 fun e w' => e = .returned (.bool true) ∧ Below w6.heap.size w6 w') := by
            have h1 := refMay_any j _ w6 hsj
            rw [HJ1.out] at h1
            exact h1
          clear hb hsj HX5 HJ0
          go_wp2_with fail
          refine HMJ.out.mono ?_
          rintro e w7 ⟨rfl, hb⟩
          have HX7 := Lib.hid (HX6.out.below hb HX6.out.lt)
          have HB7 := Lib.hid (HB6.out.trans (hb.mono s6))
          have s7 := HB7.out.size
          have HSJ7 := Lib.hid (HSJ.out.below hb)
          have HBJ := Lib.hid (Below.refl w7.heap.size w7)
          clear hb HX6 HMJ HSJ
          have y0 := HX7.out.cell 0 _ rfl
          have y1 := HX7.out.cell 1 _ rfl
          have y2 := HX7.out.cell 2 _ rfl
          have y3 := HX7.out.cell 3 _ rfl
          go_wp2_with fail
          refine (HP1.out _ HB7.out).mono ?_
          rintro e w8 ⟨bo, bc, rfl, hs8, hb⟩
          have HX8 := Lib.hid (HX7.out.below hb HX7.out.lt)
          have HSJ8 := Lib.hid (HSJ7.out.below hb)
          have HB8 := Lib.hid (HB7.out.trans (hb.mono s7))
          have s8 := HB8.out.size
          have HS8 := Lib.hid hs8
          clear hb hs8 y0 y1 y2 y3 HX7 HP1
          go_upto_region 17 with fail
          refine wp_world ?_
          intro W9 hW9
          have x14 : Box W9 w8.heap.size [.string (R1.getD noLock).root.group, .string (R1.getD noLock).root.artifact, .string (R1.getD noLock).root.version, .slice bo (R1.getD noLock).pins.length bc] := by rw [hW9]; exact Box.new w8 [.string (R1.getD noLock).root.group, .string (R1.getD noLock).root.artifact, .string (R1.getD noLock).root.version, .slice bo (R1.getD noLock).pins.length bc] _ _ rfl
          have hb : Below w8.heap.size w8 W9 := by rw [hW9]; exact (Below.refl _ w8).alloc (Nat.le_refl _) _
          clear hW9
          have HX9 := Lib.hid (HX8.out.below hb HX8.out.lt)
          have HSJ9 := Lib.hid (HSJ8.out.below hb)
          have HX14 := Lib.hid x14
          have HB9 := Lib.hid (HB8.out.trans (hb.mono s8))
          have s9 := HB9.out.size
          have HS9 := Lib.hid (HS8.out.below hb)
          clear hb x14 HX8 HS8
          have y0 := HX14.out.cell 0 _ rfl
          have y1 := HX14.out.cell 1 _ rfl
          have y2 := HX14.out.cell 2 _ rfl
          have y3 := HX14.out.cell 3 _ rfl
          go_wp2_with fail
          refine (HP2.out _ bo bc HB9.out HS9.out).mono ?_
          rintro e w10 ⟨co, cc, rfl, hs10, hb⟩
          have HX10 := Lib.hid (HX9.out.below hb HX9.out.lt)
          have HSJ10 := Lib.hid (HSJ9.out.below hb)
          have HB10 := Lib.hid (HB9.out.trans (hb.mono s9))
          have s10 := HB10.out.size
          have HS10 := Lib.hid hs10
          clear hb hs10 y0 y1 y2 y3 HX9 HX14 HS9 HP2
          go_upto_region 18 with fail
          refine wp_world ?_
          intro W11 hW11
          have x16 : Box W11 w10.heap.size [.string (R2.getD noLock).root.group, .string (R2.getD noLock).root.artifact, .string (R2.getD noLock).root.version, .slice co (R2.getD noLock).pins.length cc] := by rw [hW11]; exact Box.new w10 [.string (R2.getD noLock).root.group, .string (R2.getD noLock).root.artifact, .string (R2.getD noLock).root.version, .slice co (R2.getD noLock).pins.length cc] _ _ rfl
          have hb : Below w10.heap.size w10 W11 := by rw [hW11]; exact (Below.refl _ w10).alloc (Nat.le_refl _) _
          clear hW11
          have HX11 := Lib.hid (HX10.out.below hb HX10.out.lt)
          have HSJ11 := Lib.hid (HSJ10.out.below hb)
          have HX16 := Lib.hid x16
          have HB11 := Lib.hid (HB10.out.trans (hb.mono s10))
          have s11 := HB11.out.size
          have HS11 := Lib.hid (HS10.out.below hb)
          clear hb x16 HX10 HS10
          clear HBJ HSJ7 HSJ8 HSJ9 HSJ10
          cases R1 with
          | none =>
            go_wp2_with fail
            refine (lives_any _).mono ?_
            rintro e w9 ⟨rfl, hb9⟩
            have HB9 := Lib.hid (HB11.out.trans (hb9.mono s11))
            clear hb9
            go_wp2
            go_ret
            exact ⟨rfl, HB9.out⟩
          | some b =>
          cases R2 with
          | none =>
            go_wp2_with fail
            refine (lives_any _).mono ?_
            rintro e w9 ⟨rfl, hb9⟩
            have HB9 := Lib.hid (HB11.out.trans (hb9.mono s11))
            clear hb9
            go_wp2
            go_ret
            exact ⟨rfl, HB9.out⟩
          | some c =>
          have HX16' : Hid (Box W11 w10.heap.size [.string c.root.group, .string c.root.artifact, .string c.root.version, .slice co c.pins.length cc]) := HX16.out
          have HS11' : Hid (SliceOf 6 pinC W11 (.slice co c.pins.length cc) c.pins) := HS11.out
          have HAJ : Hid (Calls Try.prog 14 #[.agg #[.string a.root.group, .string a.root.artifact, .string a.root.version, .slice ao a.pins.length ac], .slice jo j.length jc] W11 fun e w' => ∃ xo xc, e = .returned (.tuple #[.agg #[.string c.root.group, .string c.root.artifact, .string c.root.version, .slice xo c.pins.length xc], .int .i64 0]) ∧ SliceOf 6 pinC w' (.slice xo c.pins.length xc) c.pins ∧ Below W11.heap.size W11 w') := by
            have h1 := apply_any a j (.slice ao a.pins.length ac) (.slice jo j.length jc) W11 (HA.out.below HB11.out) HSJ11.out HSA.out HJ3.out (by have h1 := HN1.out; have h2 := HN2.out; have h3 := HN3.out; have h4 := HJ2.out; omega)
            rw [HJD'.out b c rfl HR2.out.symm] at h1
            exact h1.mono fun _ _ h => h.x
          clear HX16 HS11 HJD' HR2 HJ1 HJ2 HJ3 HSJ11
          have y0 := HX11.out.cell 0 _ rfl
          have y1 := HX11.out.cell 1 _ rfl
          have y2 := HX11.out.cell 2 _ rfl
          have y3 := HX11.out.cell 3 _ rfl
          go_wp2_with fail
          refine HAJ.out.mono ?_
          rintro e w12 ⟨xo, xc, rfl, hs12, hb⟩
          have HX17 := Lib.hid (HX16'.out.below hb HX16'.out.lt)
          have HB12 := Lib.hid (HB11.out.trans (hb.mono s11))
          have s12 := HB12.out.size
          have HS12 := Lib.hid hs12
          have HT12 := Lib.hid (HS11'.out.below hb)
          clear hb hs12 y0 y1 y2 y3 HX16' HX11 HS11' HAJ
          go_upto_region 21 with fail
          refine wp_world ?_
          intro W13 hW13
          have x18 : Box W13 w12.heap.size [.string c.root.group, .string c.root.artifact, .string c.root.version, .slice xo c.pins.length xc] := by rw [hW13]; exact Box.new w12 [.string c.root.group, .string c.root.artifact, .string c.root.version, .slice xo c.pins.length xc] _ _ rfl
          have hb : Below w12.heap.size w12 W13 := by rw [hW13]; exact (Below.refl _ w12).alloc (Nat.le_refl _) _
          clear hW13
          have HX19 := Lib.hid (HX17.out.below hb HX17.out.lt)
          have HX18 := Lib.hid x18
          have HB13 := Lib.hid (HB12.out.trans (hb.mono s12))
          have s13 := HB13.out.size
          have HS13 := Lib.hid (HS12.out.below hb)
          have HT13 := Lib.hid (HT12.out.below hb)
          clear hb x18 HX17 HS12 HT12
          have HSM' : Hid (Calls Try.prog 16 #[.agg #[.string c.root.group, .string c.root.artifact, .string c.root.version, .slice co c.pins.length cc], .agg #[.string c.root.group, .string c.root.artifact, .string c.root.version, .slice xo c.pins.length xc]] W13 fun e w' => e = .returned (.bool true) ∧ Below W13.heap.size W13 w') := by
            have h1 := sameLock_any c c _ _ W13 HT13.out HS13.out
            rw [decide_eq_true (rfl : c = c)] at h1
            exact h1
          clear HS13 HT13
          have y0 := HX19.out.cell 0 _ rfl
          have y1 := HX19.out.cell 1 _ rfl
          have y2 := HX19.out.cell 2 _ rfl
          have y3 := HX19.out.cell 3 _ rfl
          have z0 := HX18.out.cell 0 _ rfl
          have z1 := HX18.out.cell 1 _ rfl
          have z2 := HX18.out.cell 2 _ rfl
          have z3 := HX18.out.cell 3 _ rfl
          go_wp2_with fail
          refine HSM'.out.mono ?_
          rintro e w14 ⟨rfl, hb⟩
          have HB14 := Lib.hid (HB13.out.trans (hb.mono s13))
          have s14 := HB14.out.size
          clear hb y0 y1 y2 y3 z0 z1 z2 z3 HX19 HX18 HSM'
          go_wp2_with fail
          refine (lives_any _).mono ?_
          rintro e w9 ⟨rfl, hb9⟩
          have HB15 := Lib.hid (HB14.out.trans (hb9.mono s14))
          clear hb9
          go_wp2
          go_ret
          exact ⟨rfl, HB15.out⟩

end Go.Proofs.Ytmcjpmogjmnfpaa
