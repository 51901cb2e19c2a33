/- The library's string functions in the words of these texts; the walk of number; the conditions stand in the theorems. -/
import Derived.Test.YtpchljiiappmnaaK9
import Derived.Test.YtpchljiiappmnaaK2
namespace Go.Proofs.Ytpchljiiappmnaa
open Go Go.RowKit

theorem hasPrefix_any (s p : S) (w : World) : Calls Try.prog 113 #[.string s, .string p] w fun e w' => e = .returned (.bool (p.data.toList.isPrefixOf s.data.toList)) ∧ w = w' :=
  (Try.strings_HasPrefix s p w).mono fun _ _ ⟨h1, h2⟩ => ⟨h1, h2.symm⟩
theorem index_any (s p : S) (m : Int) (w : World) (hs : s.size < 4294967281) (hm : w.cell? ⟨0, 0, none⟩ = some (.int .i64 m)) : Calls Try.prog 111 #[.string s, .string p] w fun e w' => e = .returned (.int .i64 (Lib.index s.data.toList p.data.toList)) ∧ w = w' :=
  (Try.strings_Index s p m w hs hm).mono fun _ _ ⟨h1, h2⟩ => ⟨h1, h2.symm⟩
theorem lastIndexByte_any (s : S) (w : World) (hs : s.size < 4611686018427387904) : Calls Try.prog 55 #[.string s, .int .u8 10] w fun e w' => e = .returned (.int .i64 ((s.size : Int) - (lineCol s.data.toList).2)) ∧ w = w' :=
  (Try.strings_LastIndexByte s 10 hs w).mono fun _ _ ⟨h1, h2⟩ => ⟨by rw [h1]; congr 2; have := lineCol_col s.data.toList; rw [data_bs, size_data] at this; exact this, h2.symm⟩
theorem count_any (s : S) (w : World) : Calls Try.prog 76 #[.string s, .string ⟨#[10]⟩] w fun e w' => e = .returned (.int .i64 ((lineCol s.data.toList).1 - 1 : Int)) ∧ w = w' :=
  (Try.strings_Count_one s 10 w).mono fun _ _ ⟨h1, h2⟩ => ⟨by rw [h1, lineCol_line]; unfold Lib.countByte; congr 2; omega, h2.symm⟩
theorem lastIndex_any (s : S) (w : World) (hs : s.size < 4611686018427387904) : Calls Try.prog 77 #[.string s, .string ⟨#[10]⟩] w fun e w' => e = .returned (.int .i64 ((s.size : Int) - (lineCol s.data.toList).2)) ∧ w = w' :=
  (Try.strings_LastIndex s ⟨#[10]⟩ hs w).mono fun _ _ ⟨h1, h2⟩ => ⟨by rw [h1]; congr 2; have := lastIndex_one s.data.toList; rw [size_data] at this; exact this, h2.symm⟩

theorem quietS {P : Program} {f : FuncId} {args : Array Value} {w : World} {n : Nat} {v : Value}
    (h : Calls P f args (w.drewN n) fun e w' => e = .returned v ∧ w.drewN n = w') : Calls P f args (w.drewN n) fun e w'' => e = .returned v ∧ ∃ m, w'' = w.drewN m :=
  Calls.quiet_of_same (h.mono fun _ _ ⟨he, hm⟩ => ⟨he, hm.symm⟩)

/-- A reference by a number, behind the & and #. -/
def numSpec : Bs → RefR
  | 120 :: r => numRef true 3 r
  | l => numRef false 2 l

set_option maxRecDepth 100000 in
set_option maxHeartbeats 4000000 in
theorem number_any (s : S) (w : World) (hs : s.size ≤ 1000000) :
    Calls Try.prog 130 #[.string s, .int .i64 2] w fun e w' => e = .returned (refTuple (numSpec s.data.toList)) ∧ Below w.heap.size w w' := by
  obtain ⟨u, l, hex, a, hpos, hu, hul, hspec, hx, ha, hsl⟩ : ∃ (u : S) (l : Bs) (hex : Bool) (a : Nat), (hex = true → 1 ≤ s.size) ∧ u.data.toList = l ∧ u.size ≤ 1000000 ∧ numSpec s.data.toList = numRef hex a l ∧ ([120] : Bs).isPrefixOf s.data.toList = hex ∧ a = (if hex then 3 else 2) ∧ u = (if hex then s.extract 1 s.size else s) := by
    by_cases h : ([120] : Bs).isPrefixOf s.data.toList = true
    · obtain ⟨r, hr⟩ := List.isPrefixOf_iff_prefix.1 h
      refine ⟨s.extract 1 s.size, r, true, 3, fun _ => by rw [← size_data, ← hr]; simp, ?_, ?_, by rw [← hr]; rfl, h, rfl, rfl⟩
      · rw [Lib.extract_to_end, ← hr]; rfl
      · rw [← size_data, Lib.extract_to_end, List.length_drop, size_data]; omega
    · have h' : ([120] : Bs).isPrefixOf s.data.toList = false := Bool.eq_false_iff.2 h
      refine ⟨s, s.data.toList, false, 2, by simp, rfl, hs, ?_, h', rfl, rfl⟩
      unfold numSpec
      split
      · rename_i r hr; rw [hr] at h'; simp at h'
      · rfl
  have HS : Hid (numSpec s.data.toList = numRef hex a l) := hspec
  have HX : Hid ((⟨#[120]⟩ : ByteArray).data.toList.isPrefixOf s.data.toList = hex) := hx
  have HU := Lib.hid hu
  clear hspec hx hu
  have hN := span_le (isDig hex) l
  have hll : l.length = u.size := by rw [← HU.out, size_data]
  have hN' : span (isDig hex) l ≤ u.size := by omega
  have HSP : ∀ b w, w.cell? ⟨b, 0, none⟩ = some (.int .i64 (baseOf hex)) → Calls Try.prog 103 #[.string u, .func (.func 140) #[] #[.pointer (some ⟨b, 0, none⟩)]] w fun e w' => e = .returned (.int .i64 (span (isDig hex) l)) ∧ w = w' := by
    intro b w hc
    have := spanDig_any u w hex b hc (by omega)
    rw [HU.out] at this; exact this
  have HDG : ∀ i, i < span (isDig hex) l → ∃ c, l[i]? = some c ∧ isDig hex c = true := fun i hi => span_lt hi
  have HEND : Hid (∀ c, l[span (isDig hex) l]? = some c → isDig hex c = false) := fun c hc => span_end hc
  generalize hNN : span (isDig hex) l = N at *
  have HNN := Lib.hid hNN
  have HD2 := Lib.hid HDG
  clear hNN hN HDG HEND
  cases hex
  · simp only [Bool.false_eq_true, if_false] at ha hsl
    subst ha
    subst hsl
    try have hpos1 : 1 ≤ s.size := hpos rfl
    clear hpos
    simp only [baseOf, Bool.false_eq_true, if_false] at HSP
    have HSP' := Lib.hid HSP
    clear HSP
    go_enter Try.func130, Try.ntmps130
    go_wp2_with (go_at_call 113; refine (hasPrefix_any _ _ _).mono ?_; rintro e w' ⟨rfl, rfl⟩; rw [HX.out])
    refine (HSP'.out _ _ (by simp [go_sem])).mono ?_
    rintro e w1 ⟨rfl, rfl⟩
    clear HSP' HX
    try generalize s.extract 1 s.size = u at *
    by_cases h8 : 8 < N
    · go_wp2
      go_ret3
      exact ⟨by rw [HS.out]; unfold numRef; rw [HNN.out, if_pos h8]; rfl, (Below.refl _ _).alloc (Nat.le_refl _) _⟩
    · by_cases hend : N = u.size
      · have e1 : ((N : Int) == (u.size : Int)) = true := beq_iff_eq.2 (by omega)
        have HE := Lib.hid hend
        clear hend
        go_wp2
        go_ret3
        exact ⟨by rw [HS.out]; unfold numRef; rw [HNN.out, if_neg h8, if_pos (by rw [hll, HE.out])]; rfl, (Below.refl _ _).alloc (Nat.le_refl _) _⟩
      · have hlt : N < u.size := by omega
        have e1 : ((N : Int) == (u.size : Int)) = false := beq_eq_false_iff_ne.2 (by omega)
        have hne : ¬ N = l.length := by rw [hll]; exact hend
        clear hend
        have hb : l[N]? = some u[N] := by
          have := congrArg (·[0]?) (drop_byte u N hlt)
          rw [HU.out] at this
          simpa using this
        have HB := Lib.hid hb
        clear hb
        by_cases h0 : N = 0
        · have e0 : ((N : Int) == 0) = true := beq_iff_eq.2 (by omega)
          have HE := Lib.hid h0
          clear h0
          go_wp2
          go_ret3
          exact ⟨by rw [HS.out]; unfold numRef; rw [HNN.out, if_neg h8, if_neg hne, if_pos (.inl HE.out)]; rfl, (Below.refl _ _).alloc (Nat.le_refl _) _⟩
        · have e0 : ((N : Int) == 0) = false := beq_eq_false_iff_ne.2 (by omega)
          by_cases h59 : u[N] = 59
          rotate_left
          · have e2 : (((u[N].toNat : Nat) : Int) != 59) = true := by
              rw [bne_iff_ne]; intro e; exact h59 (UInt8.toNat_inj.1 (by simpa using (by omega : u[N].toNat = 59)))
            have HE : Hid (l[N]? ≠ some 59) := by rw [HB.out]; show ¬ _; simpa using h59
            clear h59 HB
            go_wp2
            go_ret3
            exact ⟨by rw [HS.out]; unfold numRef; rw [HNN.out, if_neg h8, if_neg hne, if_pos (.inr HE.out)]; rfl, (Below.refl _ _).alloc (Nat.le_refl _) _⟩
          · have e2 : (((u[N].toNat : Nat) : Int) != 59) = false := by rw [h59]; decide
            have HE : Hid (l[N]? = some 59) := by rw [HB.out, h59]; rfl
            clear h59 HB
            go_wp2
            go_loopw [9, 40] (fun q i wr => ∃ j : Nat, j ≤ N ∧ i = .int .i64 j ∧ q = .int .i64 (numV false (l.take j)) ∧ Below w.heap.size w wr ∧ wr.cell? ⟨w.heap.size, 0, none⟩ = some (.int .i64 10)) (fun _ i _ => N - (intOf i).toNat)
            case atStart => exact ⟨0, Nat.zero_le _, rfl, by simp [numV], (Below.refl _ _).alloc (Nat.le_refl _) _, by simp [go_sem]⟩
            case round =>
              obtain ⟨j, hj, rfl, rfl, hb, hcell⟩ := hrel
              have hdl : ∀ c ∈ l.take j, isDig false c = true := fun c hc => by
                obtain ⟨i, hi, rfl⟩ := List.mem_iff_getElem.1 hc
                rw [List.length_take] at hi
                obtain ⟨c, h1, h2⟩ := HD2.out i (by omega)
                rw [List.getElem_take]
                obtain ⟨h3, h4⟩ := List.getElem?_eq_some_iff.1 h1
                rw [h4]; exact h2
              obtain ⟨b1, b2⟩ := numV_small false (l.take j) hdl (by rw [List.length_take]; omega)
              by_cases hjN : j < N
              · have hju : j < u.size := by omega
                have hcu : l[j]? = some u[j] := by
                  have := congrArg (·[0]?) (drop_byte u j hju)
                  rw [HU.out] at this
                  simpa using this
                have hd0 : isDig false u[j] = true := by
                  obtain ⟨c, h1, h2⟩ := HD2.out j hjN
                  rw [hcu] at h1; cases h1; exact h2
                have v1 : 0 ≤ digitV u[j] false := by simpa [isDig] using hd0
                have v2 := (digitV_le u[j] false).2
                have HSN : Hid (numV false (l.take (j + 1)) = numV false (l.take j) * 10 + digitV u[j] false) := by
                  show _ = _
                  have : l.take (j + 1) = l.take j ++ [u[j]] := by rw [List.take_add_one, hcu]; rfl
                  rw [this, numV_snoc]; rfl
                have HDI := Lib.hid (fun w => digit_any u[j] false w)
                simp only [baseOf, Bool.false_eq_true, if_false] at HDI
                clear hdl hcu hd0
                generalize numV false (l.take j) = K at *
                generalize digitV u[j] false = V at *
                have w1 := IntWalk.i64_in (K * 10) (by omega)
                have w2 := IntWalk.i64_in (K * 10 + V) (by omega)
                go_wp2
                go_quiet ((go_at_call 141; exact quietS (HDI.out _)))
                clear w1 w2
                go_wp2
                go_roundw
                case rel => exact ⟨j + 1, by omega, by go_num, by rw [HSN.out], belowN hb _, hcell⟩
                case measure => simp [intOf]; omega
              · obtain rfl : j = N := by omega
                have hok0 : span (isDig false) l = j := HNN.out
                cases hok : okLetter (numV false (l.take j))
                · have HO := Lib.hid hok
                  have HLT := Lib.hid (fun w => letter_no _ w hok)
                  clear hok hdl hok0
                  generalize hK : numV false (l.take j) = K at *
                  have HK := Lib.hid hK
                  clear hK
                  go_wp2_with (go_at_call 142; refine (HLT.out _).mono ?_; rintro e w2 ⟨rfl, hb2⟩)
                  go_ret3
                  refine ⟨?_, hb.trans (hb2.mono hb.size)⟩
                  rw [HS.out]; unfold numRef
                  rw [HNN.out, if_neg h8, if_neg hne, if_neg (by rw [HE.out]; simp [h0]), HK.out, HO.out]; rfl
                · have HO := Lib.hid hok
                  have HLT := Lib.hid (fun w => letter_ok _ w hok)
                  clear hok hdl hok0
                  generalize hK : numV false (l.take j) = K at *
                  have HK := Lib.hid hK
                  clear hK
                  go_wp2_with (go_at_call 142; refine (HLT.out _).mono ?_; rintro e w2 ⟨rfl, hb2⟩)
                  go_ret3
                  refine ⟨?_, hb.trans (hb2.mono hb.size)⟩
                  rw [HS.out]; unfold numRef
                  rw [HNN.out, if_neg h8, if_neg hne, if_neg (by rw [HE.out]; simp [h0]), HK.out, HO.out]
                  simp only [if_true, refTuple]
                  rw [show ((2 + j + 1 : Nat) : Int) = 2 + (j : Int) + 1 by omega]; rfl
  · simp only [if_true] at ha hsl
    subst ha
    subst hsl
    try have hpos1 : 1 ≤ s.size := hpos rfl
    clear hpos
    simp only [baseOf, if_true] at HSP
    have HSP' := Lib.hid HSP
    clear HSP
    go_enter Try.func130, Try.ntmps130
    go_wp2_with (go_at_call 113; refine (hasPrefix_any _ _ _).mono ?_; rintro e w' ⟨rfl, rfl⟩; rw [HX.out])
    refine (HSP'.out _ _ (by simp [go_sem])).mono ?_
    rintro e w1 ⟨rfl, rfl⟩
    clear HSP' HX
    try generalize s.extract 1 s.size = u at *
    by_cases h8 : 8 < N
    · go_wp2
      go_ret3
      exact ⟨by rw [HS.out]; unfold numRef; rw [HNN.out, if_pos h8]; rfl, (Below.refl _ _).alloc (Nat.le_refl _) _⟩
    · by_cases hend : N = u.size
      · have e1 : ((N : Int) == (u.size : Int)) = true := beq_iff_eq.2 (by omega)
        have HE := Lib.hid hend
        clear hend
        go_wp2
        go_ret3
        exact ⟨by rw [HS.out]; unfold numRef; rw [HNN.out, if_neg h8, if_pos (by rw [hll, HE.out])]; rfl, (Below.refl _ _).alloc (Nat.le_refl _) _⟩
      · have hlt : N < u.size := by omega
        have e1 : ((N : Int) == (u.size : Int)) = false := beq_eq_false_iff_ne.2 (by omega)
        have hne : ¬ N = l.length := by rw [hll]; exact hend
        clear hend
        have hb : l[N]? = some u[N] := by
          have := congrArg (·[0]?) (drop_byte u N hlt)
          rw [HU.out] at this
          simpa using this
        have HB := Lib.hid hb
        clear hb
        by_cases h0 : N = 0
        · have e0 : ((N : Int) == 0) = true := beq_iff_eq.2 (by omega)
          have HE := Lib.hid h0
          clear h0
          go_wp2
          go_ret3
          exact ⟨by rw [HS.out]; unfold numRef; rw [HNN.out, if_neg h8, if_neg hne, if_pos (.inl HE.out)]; rfl, (Below.refl _ _).alloc (Nat.le_refl _) _⟩
        · have e0 : ((N : Int) == 0) = false := beq_eq_false_iff_ne.2 (by omega)
          by_cases h59 : u[N] = 59
          rotate_left
          · have e2 : (((u[N].toNat : Nat) : Int) != 59) = true := by
              rw [bne_iff_ne]; intro e; exact h59 (UInt8.toNat_inj.1 (by simpa using (by omega : u[N].toNat = 59)))
            have HE : Hid (l[N]? ≠ some 59) := by rw [HB.out]; show ¬ _; simpa using h59
            clear h59 HB
            go_wp2
            go_ret3
            exact ⟨by rw [HS.out]; unfold numRef; rw [HNN.out, if_neg h8, if_neg hne, if_pos (.inr HE.out)]; rfl, (Below.refl _ _).alloc (Nat.le_refl _) _⟩
          · have e2 : (((u[N].toNat : Nat) : Int) != 59) = false := by rw [h59]; decide
            have HE : Hid (l[N]? = some 59) := by rw [HB.out, h59]; rfl
            clear h59 HB
            go_wp2
            go_loopw [9, 40] (fun q i wr => ∃ j : Nat, j ≤ N ∧ i = .int .i64 j ∧ q = .int .i64 (numV true (l.take j)) ∧ Below w.heap.size w wr ∧ wr.cell? ⟨w.heap.size, 0, none⟩ = some (.int .i64 16)) (fun _ i _ => N - (intOf i).toNat)
            case atStart => exact ⟨0, Nat.zero_le _, rfl, by simp [numV], (Below.refl _ _).alloc (Nat.le_refl _) _, by simp [go_sem]⟩
            case round =>
              obtain ⟨j, hj, rfl, rfl, hb, hcell⟩ := hrel
              have hdl : ∀ c ∈ l.take j, isDig true c = true := fun c hc => by
                obtain ⟨i, hi, rfl⟩ := List.mem_iff_getElem.1 hc
                rw [List.length_take] at hi
                obtain ⟨c, h1, h2⟩ := HD2.out i (by omega)
                rw [List.getElem_take]
                obtain ⟨h3, h4⟩ := List.getElem?_eq_some_iff.1 h1
                rw [h4]; exact h2
              obtain ⟨b1, b2⟩ := numV_small true (l.take j) hdl (by rw [List.length_take]; omega)
              by_cases hjN : j < N
              · have hju : j < u.size := by omega
                have hcu : l[j]? = some u[j] := by
                  have := congrArg (·[0]?) (drop_byte u j hju)
                  rw [HU.out] at this
                  simpa using this
                have hd0 : isDig true u[j] = true := by
                  obtain ⟨c, h1, h2⟩ := HD2.out j hjN
                  rw [hcu] at h1; cases h1; exact h2
                have v1 : 0 ≤ digitV u[j] true := by simpa [isDig] using hd0
                have v2 := (digitV_le u[j] true).2
                have HSN : Hid (numV true (l.take (j + 1)) = numV true (l.take j) * 16 + digitV u[j] true) := by
                  show _ = _
                  have : l.take (j + 1) = l.take j ++ [u[j]] := by rw [List.take_add_one, hcu]; rfl
                  rw [this, numV_snoc]; rfl
                have HDI := Lib.hid (fun w => digit_any u[j] true w)
                simp only [baseOf, if_true] at HDI
                clear hdl hcu hd0
                generalize numV true (l.take j) = K at *
                generalize digitV u[j] true = V at *
                have w1 := IntWalk.i64_in (K * 16) (by omega)
                have w2 := IntWalk.i64_in (K * 16 + V) (by omega)
                go_wp2
                go_quiet ((go_at_call 141; exact quietS (HDI.out _)))
                clear w1 w2
                go_wp2
                go_roundw
                case rel => exact ⟨j + 1, by omega, by go_num, by rw [HSN.out], belowN hb _, hcell⟩
                case measure => simp [intOf]; omega
              · obtain rfl : j = N := by omega
                have hok0 : span (isDig true) l = j := HNN.out
                cases hok : okLetter (numV true (l.take j))
                · have HO := Lib.hid hok
                  have HLT := Lib.hid (fun w => letter_no _ w hok)
                  clear hok hdl hok0
                  generalize hK : numV true (l.take j) = K at *
                  have HK := Lib.hid hK
                  clear hK
                  go_wp2_with (go_at_call 142; refine (HLT.out _).mono ?_; rintro e w2 ⟨rfl, hb2⟩)
                  go_ret3
                  refine ⟨?_, hb.trans (hb2.mono hb.size)⟩
                  rw [HS.out]; unfold numRef
                  rw [HNN.out, if_neg h8, if_neg hne, if_neg (by rw [HE.out]; simp [h0]), HK.out, HO.out]; rfl
                · have HO := Lib.hid hok
                  have HLT := Lib.hid (fun w => letter_ok _ w hok)
                  clear hok hdl hok0
                  generalize hK : numV true (l.take j) = K at *
                  have HK := Lib.hid hK
                  clear hK
                  go_wp2_with (go_at_call 142; refine (HLT.out _).mono ?_; rintro e w2 ⟨rfl, hb2⟩)
                  go_ret3
                  refine ⟨?_, hb.trans (hb2.mono hb.size)⟩
                  rw [HS.out]; unfold numRef
                  rw [HNN.out, if_neg h8, if_neg hne, if_neg (by rw [HE.out]; simp [h0]), HK.out, HO.out]
                  simp only [if_true, refTuple]
                  rw [show ((3 + j + 1 : Nat) : Int) = 3 + (j : Int) + 1 by omega]; rfl

end Go.Proofs.Ytpchljiiappmnaa
