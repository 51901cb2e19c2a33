/- Walks: which edits may be, the document's; the conditions stand in the theorem. -/
import Derived.Test.YtmcjpmogjmnfpaaL15
namespace Go.Proofs.Ytmcjpmogjmnfpaa
open Go Go.RowKit

theorem neq_noPinB (p : Pin) (w : World) : (binOp .neq 44 (.agg #[.string p.key.group, .string p.key.artifact, .string p.key.type, .string p.key.classifier, .string p.version, .int .i64 p.scope]) (.agg #[.string ⟨#[]⟩, .string ⟨#[]⟩, .string ⟨#[]⟩, .string ⟨#[]⟩, .string ⟨#[]⟩, .int .i64 0])).run Try.prog w = .ok (.bool (!pinEq p noPin)) w := neq_pinB p noPin w
def fitsE (e : Edit) : Bool := (e.had && e.has && pinEq e.old e.new)
theorem editOk_doc (e : Edit) : editOk e = ((e.had || e.has) && !fitsE e && sideOk e.key e.had e.old && sideOk e.key e.has e.new) := by
  unfold editOk fitsE pinEq
  cases e.had <;> cases e.has <;> simp [Bool.and_comm, Bool.and_assoc]

attribute [local go_sem ↓] eqg_pinE eql_pinB neq_noPinB eqg_keyE neq_keyB in
set_option maxRecDepth 100000 in
set_option maxHeartbeats 16000000 in
theorem refMay_any (l : List Edit) (v : Value) (w : World) (hv : SliceOf 18 editC w v l) : Calls Try.prog 19 #[v] w fun e w' => e = .returned (.bool (mayE l)) ∧ Below w.heap.size w w' := by
  have hlm : l.length ≤ 9223372036854775807 := by obtain ⟨a, c, e, h2, h3, -⟩ := hv; exact Nat.le_trans h2 (Nat.le_trans h3 (by decide))
  obtain ⟨ao, ac, rfl⟩ := hv.shape
  have HV := Lib.hid hv
  clear hv
  go_enter Try.func19, Try.ntmps19
  go_wp2_with fail
  go_loopw [7] (fun iv wr => ∃ i : Nat, i ≤ l.length ∧ iv = .int .i64 i ∧ Hid (mayE (l.take i) = true) ∧ Below w.heap.size w wr) (fun iv _ => l.length - (intOf iv).toNat)
  case atStart => exact ⟨0, Nat.zero_le _, rfl, rfl, Below.refl _ _⟩
  case round =>
    obtain ⟨i, hi, rfl, HOK, hb⟩ := hrel
    have HBR := Lib.hid hb
    have hsr := hb.size
    by_cases hlt : i < l.length
    · have hltI : (i : Int) < (l.length : Int) := by omega
      obtain ⟨g, o, rfl, hg, hc⟩ := (HV.out.below hb).at hlt
      have HRG : Hid (wr.rangeAt g (o + i * 18) (editC l[i])) := fun q u h => hc q u h
      have HSLR := Lib.hid (HV.out.below hb)
      have hx4 : Hid (Box (wr.alloc (.cells #[.string ⟨#[]⟩, .string ⟨#[]⟩, .string ⟨#[]⟩, .string ⟨#[]⟩, .bool false, .bool false, .string ⟨#[]⟩, .string ⟨#[]⟩, .string ⟨#[]⟩, .string ⟨#[]⟩, .string ⟨#[]⟩, .int .i64 0, .string ⟨#[]⟩, .string ⟨#[]⟩, .string ⟨#[]⟩, .string ⟨#[]⟩, .string ⟨#[]⟩, .int .i64 0] 46)) wr.heap.size [.string ⟨#[]⟩, .string ⟨#[]⟩, .string ⟨#[]⟩, .string ⟨#[]⟩, .bool false, .bool false, .string ⟨#[]⟩, .string ⟨#[]⟩, .string ⟨#[]⟩, .string ⟨#[]⟩, .string ⟨#[]⟩, .int .i64 0, .string ⟨#[]⟩, .string ⟨#[]⟩, .string ⟨#[]⟩, .string ⟨#[]⟩, .string ⟨#[]⟩, .int .i64 0]) := Box.new wr _ _ _ rfl
      have HNO1 : Hid (editOk l[i] = false → mayE l = false) := fun h => mayE_no1 hlt h
      have HST : Hid (∀ j (h : i = j + 1), editOk l[i] = true → cmpK (l[j]'(by omega)).key l[i].key = -1 → mayE (l.take (i + 1)) = true) := fun j h hp hc => by subst h; exact mayE_step hlt HOK.out hp hc
      have HNO2 : Hid (∀ j (h : i = j + 1), cmpK (l[j]'(by omega)).key l[i].key ≠ -1 → mayE l = false) := fun j h hc => by subst h; exact mayE_no2 hlt hc
      have HF1 : Hid (i = 0 → editOk l[i] = true → mayE (l.take (i + 1)) = true) := fun h hp => by subst h; exact mayE_first hlt hp
      clear hc hb
      generalize l[i] = e at *
      go_upto_region 4 with (first | ((with_reducible show wpList _ _ _ (Oper.mk _ (Op.load 46 (.tmp 10)) _ _ _ _ :: _) _ _); refine wpList_load_mid rfl 46 (.tmp 10) rfl g (o + i * 18) rfl (editC e) _ HRG.out Try.underlying46 rfl size_edit ?_) | ((with_reducible show wpList _ _ _ (Oper.mk none (Op.store 46 (.tmp 4) (.tmp 11)) _ _ _ _ :: _) _ _); refine wpList_store_box rfl 46 (.tmp 4) (.tmp 11) rfl wr.heap.size [.string ⟨#[]⟩, .string ⟨#[]⟩, .string ⟨#[]⟩, .string ⟨#[]⟩, .bool false, .bool false, .string ⟨#[]⟩, .string ⟨#[]⟩, .string ⟨#[]⟩, .string ⟨#[]⟩, .string ⟨#[]⟩, .int .i64 0, .string ⟨#[]⟩, .string ⟨#[]⟩, .string ⟨#[]⟩, .string ⟨#[]⟩, .string ⟨#[]⟩, .int .i64 0] (editC e) rfl rfl hx4.out rfl size_edit editC_one ?_; intro W v0 hg0))
      have X4 := Lib.hid v0
      have HBW := Lib.hid (((Below.refl _ wr).alloc (Nat.le_refl _) _).trans (below_grown hg0 (by simp) |>.mono (by omega)))
      have hs1 := HBW.out.size
      clear hx4 v0 hg0 HRG
      obtain ⟨k, had, has, old, new⟩ := e
      simp only [Act.put]
      obtain ⟨b1, HB1⟩ : ∃ b1 : Bool, Hid ((b1 = true → mayE l = false) ∧ (b1 = false → editOk ⟨k, had, has, old, new⟩ = true → mayE (l.take (i + 1)) = true)) ∧ Hid (b1 = false ∨ ∃ (j : Nat) (h : i = j + 1), cmpK (l[j]'(by omega)).key k ≠ -1) ∧ Hid (∀ j (h : i = j + 1), b1 = decide (cmpK (l[j]'(by omega)).key k ≠ -1)) ∧ Hid (i = 0 → b1 = false) := by
        by_cases hi0 : i = 0
        · exact ⟨false, ⟨by simp, fun _ h => HF1.out hi0 h⟩, .inl rfl, fun j h => by omega, fun _ => rfl⟩
        · obtain ⟨j, hj⟩ : ∃ j, i = j + 1 := ⟨i - 1, by omega⟩
          refine ⟨decide (cmpK (l[j]'(by omega)).key k ≠ -1), ⟨fun h => HNO2.out j hj (of_decide_eq_true h), fun h h2 => HST.out j hj h2 (Decidable.not_not.1 (of_decide_eq_false h))⟩, ?_, fun j2 h2 => ?_, fun h => absurd h hi0⟩
          · by_cases hcc : cmpK (l[j]'(by omega)).key k = -1
            · exact .inl (decide_eq_false (by simpa using hcc))
            · exact .inr ⟨j, hj, hcc⟩
          · obtain rfl : j = j2 := by omega
            rfl
      obtain ⟨HBB, -, HBJ, HB0⟩ := HB1
      clear HNO2 HST HF1
      go_cut [25] from 12 to 25 (fun v wx => v = .bool b1 ∧ Below W.heap.size W wx)
      case first =>
        have hLC := @Later.cells W
        have n0 := X4.out.cell 0 _ rfl
        have n1 := X4.out.cell 1 _ rfl
        have n2 := X4.out.cell 2 _ rfl
        have n3 := X4.out.cell 3 _ rfl
        have l4 := X4.out.lt
        have hgc : g < W.heap.size := Nat.lt_of_lt_of_le hg HBW.out.size
        by_cases hi0 : i = 0
        · have dk : decide ((0 : Int) < (i : Int)) = false := by rw [decide_eq_false_iff_not]; omega
          have dkN : decide (0 < i) = false := by rw [decide_eq_false_iff_not]; omega
          have HR := Lib.hid (HB0.out hi0)
          clear hi0
          go_wp2_with fail
          refine region_later (by kernel_rfl) (by kernel_rfl) ?_
          repeat (go_big_quiet_step (fail))
          refine wpQuiet_nil ?_
          rintro _ ⟨nx, rfl⟩
          have HZ : Hid (Below W.heap.size W nx.at_) := nx.below
          clear hLC n0 n1 n2 n3
          generalize nx.at_ = wn at *
          go_wp2_with fail
          go_meet
          exact ⟨by rw [HR.out], HZ.out⟩
        · obtain ⟨j, hj⟩ : ∃ j, i = j + 1 := ⟨i - 1, by omega⟩
          have dk : decide ((0 : Int) < (i : Int)) = true := by rw [decide_eq_true_iff]; omega
          have dkN : decide (0 < i) = true := by rw [decide_eq_true_iff]; omega
          have hjl : j < l.length := by omega
          have hjI : (j : Int) < (l.length : Int) := by omega
          have wj : IntKind.i64.wrap ((i : Int) - 1) = (j : Int) := by rw [show (i : Int) - 1 = (j : Int) by omega]; exact IntWalk.i64_in _ (by omega)
          obtain ⟨bb', oo', hbe, -, hcell⟩ := (HSLR.out.below HBW.out).at hjl
          simp only [Option.some.injEq, Addr.mk.injEq] at hbe
          obtain ⟨rfl, rfl, -⟩ := hbe
          have q0 : W.cell? ⟨g, o + j * 18, none⟩ = some (.string l[j].key.group) := by simpa using hcell 0 _ rfl
          have q1 : W.cell? ⟨g, o + j * 18 + 1, none⟩ = some (.string l[j].key.artifact) := hcell 1 _ rfl
          have q2 : W.cell? ⟨g, o + j * 18 + 2, none⟩ = some (.string l[j].key.type) := hcell 2 _ rfl
          have q3 : W.cell? ⟨g, o + j * 18 + 3, none⟩ = some (.string l[j].key.classifier) := hcell 3 _ rfl
          have HR : Hid (b1 = decide (cmpK l[j].key k ≠ -1)) := HBJ.out j hj
          clear hcell hi0 hj
          generalize l[j] = f at *
          obtain ⟨c, hc⟩ : ∃ c, c = cmpK f.key k := ⟨_, rfl⟩
          have HC := Lib.hid (fun (x : Later W) => refCompare_l f.key k x c hc.symm)
          have HRC : Hid (b1 = decide (c ≠ -1)) := by rw [hc]; exact HR.out
          clear hc HR
          have e2 : (c != -1) = decide (c ≠ -1) := by rw [Bool.eq_iff_iff]; simp
          have HE2 := Lib.hid e2
          obtain ⟨d, hd⟩ : ∃ d : Bool, d = decide (c ≠ -1) := ⟨_, rfl⟩
          rw [← hd] at e2
          have HD : Hid (b1 = d) := by rw [hd]; exact HRC.out
          clear hd HRC HE2
          go_wp2_with fail
          refine region_later (by kernel_rfl) (by kernel_rfl) ?_
          repeat (go_big_quiet_step ((go_at_call 37; exact HC.out _)))
          refine wpQuiet_nil ?_
          rintro _ ⟨nx, rfl⟩
          have HZ : Hid (Below W.heap.size W nx.at_) := nx.below
          clear hLC n0 n1 n2 n3 q0 q1 q2 q3
          generalize nx.at_ = wn at *
          go_wp2_with fail
          go_meet
          exact ⟨by rw [HD.out], HZ.out⟩
      case rest =>
        obtain ⟨rfl, hb2⟩ := hcut
        have HBC := Lib.hid hb2
        have X5 := Lib.hid (X4.out.below hb2 X4.out.lt)
        have l5 := X5.out.lt
        have HBA : Hid (Below w.heap.size w wc) := HBR.out.trans ((HBW.out.mono hsr).trans (hb2.mono (Nat.le_trans hsr hs1)))
        clear hb2
        have n0 := X5.out.cell 0 _ rfl
        have n1 := X5.out.cell 1 _ rfl
        have n2 := X5.out.cell 2 _ rfl
        have n3 := X5.out.cell 3 _ rfl
        have n4 := X5.out.cell 4 _ rfl
        have n5 := X5.out.cell 5 _ rfl
        have n6 := X5.out.cell 6 _ rfl
        have n7 := X5.out.cell 7 _ rfl
        have n8 := X5.out.cell 8 _ rfl
        have n9 := X5.out.cell 9 _ rfl
        have n10 := X5.out.cell 10 _ rfl
        have n11 := X5.out.cell 11 _ rfl
        have n12 := X5.out.cell 12 _ rfl
        have n13 := X5.out.cell 13 _ rfl
        have n14 := X5.out.cell 14 _ rfl
        have n15 := X5.out.cell 15 _ rfl
        have n16 := X5.out.cell 16 _ rfl
        have n17 := X5.out.cell 17 _ rfl
        cases b1 with
        | true =>
          have HR := Lib.hid (HBB.out.1 (by trivial))
          go_wp2
          go_ret
          exact ⟨ret_bool HR.out.symm, HBA.out⟩
        | false =>
        have HON : Hid (editOk ⟨k, had, has, old, new⟩ = true → mayE (l.take (i + 1)) = true) := HBB.out.2 (by trivial)
        have HED := Lib.hid (editOk_doc ⟨k, had, has, old, new⟩)
        clear HBB HBJ HB0
        cases had with
        | false =>
          cases has with
          | false =>
            have HR : Hid (mayE l = false) := HNO1.out (by rw [HED.out]; rfl)
            go_wp2
            go_ret
            exact ⟨ret_bool HR.out.symm, HBA.out⟩
          | true =>
            obtain ⟨r1, hr1⟩ : ∃ r, r = pinEq old noPin := ⟨_, rfl⟩
            obtain ⟨r2, hr2⟩ : ∃ r, r = keyEq new.key k := ⟨_, rfl⟩
            have HR1 := Lib.hid hr1
            have HR2 := Lib.hid hr2
            have h1 := hr1.symm
            have h2 := hr2.symm
            clear hr1 hr2
            cases r1 with
            | false =>
              have HR : Hid (mayE l = false) := HNO1.out (by rw [HED.out]; show (((_ && !((false && true) && pinEq old new)) && pinEq old noPin) && keyEq new.key k) = _; rw [← HR1.out]; simp)
              go_wp2
              go_ret
              exact ⟨ret_bool HR.out.symm, HBA.out⟩
            | true =>
              cases r2 with
              | false =>
                have HR : Hid (mayE l = false) := HNO1.out (by rw [HED.out]; show (((_ && !((false && true) && pinEq old new)) && pinEq old noPin) && keyEq new.key k) = _; rw [← HR2.out]; simp)
                go_wp2
                go_ret
                exact ⟨ret_bool HR.out.symm, HBA.out⟩
              | true =>
                have HR : Hid (mayE (l.take (i + 1)) = true) := HON.out (by rw [HED.out]; show (((_ && !((false && true) && pinEq old new)) && pinEq old noPin) && keyEq new.key k) = _; rw [← HR1.out, ← HR2.out]; simp)
                go_wp2
                clear n0 n1 n2 n3 n4 n5 n6 n7 n8 n9 n10 n11 n12 n13 n14 n15 n16 n17
                go_roundw
                case rel => exact ⟨i + 1, hlt, by go_num, HR.out, HBA.out⟩
                case measure => simp [intOf]; omega
        | true =>
          cases has with
          | false =>
            obtain ⟨r1, hr1⟩ : ∃ r, r = keyEq old.key k := ⟨_, rfl⟩
            obtain ⟨r2, hr2⟩ : ∃ r, r = pinEq new noPin := ⟨_, rfl⟩
            have HR1 := Lib.hid hr1
            have HR2 := Lib.hid hr2
            have h1 := hr1.symm
            have h2 := hr2.symm
            clear hr1 hr2
            cases r1 with
            | false =>
              have HR : Hid (mayE l = false) := HNO1.out (by rw [HED.out]; show (((_ && !((true && false) && pinEq old new)) && keyEq old.key k) && pinEq new noPin) = _; rw [← HR1.out]; simp)
              go_wp2
              go_ret
              exact ⟨ret_bool HR.out.symm, HBA.out⟩
            | true =>
              cases r2 with
              | false =>
                have HR : Hid (mayE l = false) := HNO1.out (by rw [HED.out]; show (((_ && !((true && false) && pinEq old new)) && keyEq old.key k) && pinEq new noPin) = _; rw [← HR2.out]; simp)
                go_wp2
                go_ret
                exact ⟨ret_bool HR.out.symm, HBA.out⟩
              | true =>
                have HR : Hid (mayE (l.take (i + 1)) = true) := HON.out (by rw [HED.out]; show (((_ && !((true && false) && pinEq old new)) && keyEq old.key k) && pinEq new noPin) = _; rw [← HR1.out, ← HR2.out]; simp)
                go_wp2
                clear n0 n1 n2 n3 n4 n5 n6 n7 n8 n9 n10 n11 n12 n13 n14 n15 n16 n17
                go_roundw
                case rel => exact ⟨i + 1, hlt, by go_num, HR.out, HBA.out⟩
                case measure => simp [intOf]; omega
          | true =>
            obtain ⟨d, hd⟩ : ∃ d, d = pinEq old new := ⟨_, rfl⟩
            have hd2 := hd.symm
            have HQ := Lib.hid hd2
            clear hd
            cases d with
            | true =>
              have HR : Hid (mayE l = false) := HNO1.out (by rw [HED.out]; unfold fitsE; simp [HQ.out])
              go_wp2
              go_ret
              exact ⟨ret_bool HR.out.symm, HBA.out⟩
            | false =>
              obtain ⟨r1, hr1⟩ : ∃ r, r = keyEq old.key k := ⟨_, rfl⟩
              obtain ⟨r2, hr2⟩ : ∃ r, r = keyEq new.key k := ⟨_, rfl⟩
              have HR1 := Lib.hid hr1
              have HR2 := Lib.hid hr2
              have h1 := hr1.symm
              have h2 := hr2.symm
              clear hr1 hr2
              cases r1 with
              | false =>
                have HR : Hid (mayE l = false) := HNO1.out (by rw [HED.out]; show (((_ && !((true && true) && pinEq old new)) && keyEq old.key k) && keyEq new.key k) = _; rw [← HR1.out]; simp)
                go_wp2
                go_ret
                exact ⟨ret_bool HR.out.symm, HBA.out⟩
              | true =>
                cases r2 with
                | false =>
                  have HR : Hid (mayE l = false) := HNO1.out (by rw [HED.out]; show (((_ && !((true && true) && pinEq old new)) && keyEq old.key k) && keyEq new.key k) = _; rw [← HR2.out]; simp)
                  go_wp2
                  go_ret
                  exact ⟨ret_bool HR.out.symm, HBA.out⟩
                | true =>
                  have HR : Hid (mayE (l.take (i + 1)) = true) := HON.out (by rw [HED.out]; show (((_ && !((true && true) && pinEq old new)) && keyEq old.key k) && keyEq new.key k) = _; rw [← HR1.out, ← HR2.out]; simp [HQ.out])
                  go_wp2
                  clear n0 n1 n2 n3 n4 n5 n6 n7 n8 n9 n10 n11 n12 n13 n14 n15 n16 n17
                  go_roundw
                  case rel => exact ⟨i + 1, hlt, by go_num, HR.out, HBA.out⟩
                  case measure => simp [intOf]; omega
    · obtain rfl : i = l.length := by omega
      have HF : Hid (mayE l = true) := by have := HOK.out; rwa [List.take_length] at this
      clear hlt
      go_wp2
      go_ret
      exact ⟨ret_bool HF.out.symm, HBR.out⟩

end Go.Proofs.Ytmcjpmogjmnfpaa
