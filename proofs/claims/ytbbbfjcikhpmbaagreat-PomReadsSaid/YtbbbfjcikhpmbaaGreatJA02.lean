/- Plain law of references: the document's way to cut one and the program's are the same; no program in sight. -/
import Derived.Test.YtbbbfjcikhpmbaaGreatJA01
import Derived.Laws.AppendOwnNone
import Derived.Maps.AppendAt
import Derived.OwnWalk
import Derived.Deep.MidRow

namespace Go.Proofs.YtbbbfjcikhpmbaaGreat
open Go Go.RowKit

/-- A reference takes a byte or more, and no more than there are. -/
theorem refSpec_size {s t : Bs} {n : Nat} (h : refSpec s = .ok t n) : 1 ≤ n ∧ n ≤ s.length := by
 have hn : ∀ hex a d, numRef hex a d = .ok t n → n ≤ a + d.length ∧ a + 1 ≤ n := by
  intro hex a d h
  unfold numRef at h
  have := span_le (isDig hex) d
  by_cases h1 : 8 < span (isDig hex) d
  · rw [if_pos h1] at h; cases h
  · rw [if_neg h1] at h
    by_cases h2 : span (isDig hex) d = d.length
    · rw [if_pos h2] at h; cases h
    · rw [if_neg h2] at h
      by_cases h3 : span (isDig hex) d = 0 ∨ d[span (isDig hex) d]? ≠ some 59
      · rw [if_pos h3] at h; cases h
      · rw [if_neg h3] at h
        split at h
        · cases h; omega
        · cases h
 cases s with
 | nil => cases h
 | cons c r =>
  simp only [refSpec] at h
  by_cases hc : c = 38
  · rw [if_neg (by simp [hc])] at h
    split at h
    · split at h
      · have := hn _ _ _ h; simp only [List.length_cons]; omega
      · have := hn _ _ _ h; simp only [List.length_cons]; omega
    · by_cases hl : span cLower r = r.length
      · rw [if_pos hl] at h
        split at h <;> cases h
      · rw [if_neg hl] at h
        have := span_le cLower r
        split at h
        · split at h
          · cases h; simp only [List.length_cons]; omega
          · cases h
        · cases h
  · rw [if_pos hc] at h; cases h

end Go.Proofs.YtbbbfjcikhpmbaaGreat

/- The library's string functions in the words of these texts; the walk of number; the conditions stand in the theorems. -/

namespace Go.Proofs.YtbbbfjcikhpmbaaGreat
open Go Go.RowKit

theorem hasPrefix_any (s p : S) (w : World) : Calls Tryz.prog 150 #[.string s, .string p] w fun e w' => e = .returned (.bool (p.data.toList.isPrefixOf s.data.toList)) ∧ w = w' :=
 (Tryz.strings_HasPrefix s p w).mono fun _ _ ⟨h1, h2⟩ => ⟨h1, h2.symm⟩
theorem index_any (s p : S) (m : Int) (w : World) (hs : s.size < 4294967281) (hm : w.cell? ⟨0, 0, none⟩ = some (.int .i64 m)) : Calls Tryz.prog 121 #[.string s, .string p] w fun e w' => e = .returned (.int .i64 (Lib.index s.data.toList p.data.toList)) ∧ w = w' :=
 (Tryz.strings_Index s p m w hs hm).mono fun _ _ ⟨h1, h2⟩ => ⟨h1, h2.symm⟩
theorem lastIndexByte_any (s : S) (w : World) (hs : s.size < 4611686018427387904) : Calls Tryz.prog 112 #[.string s, .int .u8 10] w fun e w' => e = .returned (.int .i64 ((s.size : Int) - (lineCol s.data.toList).2)) ∧ w = w' :=
 (Tryz.strings_LastIndexByte s 10 hs w).mono fun _ _ ⟨h1, h2⟩ => ⟨by rw [h1]; congr 2; have := lineCol_col s.data.toList; rw [data_bs, size_data] at this; exact this, h2.symm⟩
theorem count_any (s : S) (w : World) : Calls Tryz.prog 117 #[.string s, .string ⟨#[10]⟩] w fun e w' => e = .returned (.int .i64 ((lineCol s.data.toList).1 - 1 : Int)) ∧ w = w' :=
 (Tryz.strings_Count_one s 10 w).mono fun _ _ ⟨h1, h2⟩ => ⟨by rw [h1, lineCol_line]; unfold Lib.countByte; congr 2; omega, h2.symm⟩
theorem lastIndex_any (s : S) (w : World) (hs : s.size < 4611686018427387904) : Calls Tryz.prog 118 #[.string s, .string ⟨#[10]⟩] w fun e w' => e = .returned (.int .i64 ((s.size : Int) - (lineCol s.data.toList).2)) ∧ w = w' :=
 (Tryz.strings_LastIndex s ⟨#[10]⟩ hs w).mono fun _ _ ⟨h1, h2⟩ => ⟨by rw [h1]; congr 2; have := lastIndex_one s.data.toList; rw [size_data] at this; exact this, h2.symm⟩
theorem quietS {P : Program} {f : FuncId} {args : Array Value} {w : World} {n : Nat} {v : Value}
    (h : Calls P f args (w.drewN n) fun e w' => e = .returned v ∧ w.drewN n = w') : Calls P f args (w.drewN n) fun e w'' => e = .returned v ∧ ∃ m, w'' = w.drewN m :=
 Calls.quiet_of_same (h.mono fun _ _ ⟨he, hm⟩ => ⟨he, hm.symm⟩)
/-- A reference by a number, behind the & and #. -/
def numSpec : Bs → RefR
 | 120 :: r => numRef true 3 r
 | l => numRef false 2 l
set_option maxRecDepth 100000 in
set_option maxHeartbeats 4000000 in
theorem number_any (s : S) (w : World) (hs : s.size ≤ 1000000) :
    Calls Tryz.prog 161 #[.string s, .int .i64 2] w fun e w' => e = .returned (refTuple (numSpec s.data.toList)) ∧ Below w.heap.size w w' := by
 obtain ⟨u, l, hex, a, hpos, hu, hul, hspec, hx, ha, hsl⟩ : ∃ (u : S) (l : Bs) (hex : Bool) (a : Nat), (hex = true → 1 ≤ s.size) ∧ u.data.toList = l ∧ u.size ≤ 1000000 ∧ numSpec s.data.toList = numRef hex a l ∧ ([120] : Bs).isPrefixOf s.data.toList = hex ∧ a = (if hex then 3 else 2) ∧ u = (if hex then s.extract 1 s.size else s) := by
  by_cases h : ([120] : Bs).isPrefixOf s.data.toList = true
  · obtain ⟨r, hr⟩ := List.isPrefixOf_iff_prefix.1 h
    refine ⟨s.extract 1 s.size, r, true, 3, fun _ => by rw [← size_data, ← hr]; simp, ?_, ?_, by rw [← hr]; rfl, h, rfl, rfl⟩
    · rw [Lib.extract_to_end, ← hr]; rfl
    · rw [← size_data, Lib.extract_to_end, List.length_drop, size_data]; omega
  · have h' : ([120] : Bs).isPrefixOf s.data.toList = false := Bool.eq_false_iff.2 h
    refine ⟨s, s.data.toList, false, 2, by simp, rfl, hs, ?_, h', rfl, rfl⟩
    unfold numSpec
    split
    · rename_i r hr; rw [hr] at h'; simp at h'
    · rfl
 have HS : Hid (numSpec s.data.toList = numRef hex a l) := hspec
 have HX : Hid ((⟨#[120]⟩ : ByteArray).data.toList.isPrefixOf s.data.toList = hex) := hx
 have HU := Lib.hid hu
 clear hspec hx hu
 have hN := span_le (isDig hex) l
 have hll : l.length = u.size := by rw [← HU.out, size_data]
 have hN' : span (isDig hex) l ≤ u.size := by omega
 have HSP : ∀ b w, w.cell? ⟨b, 0, none⟩ = some (.int .i64 (baseOf hex)) → Calls Tryz.prog 130 #[.string u, .func (.func 166) #[] #[.pointer (some ⟨b, 0, none⟩)]] w fun e w' => e = .returned (.int .i64 (span (isDig hex) l)) ∧ w = w' := by
  intro b w hc
  have := spanDig_any u w hex b hc (by omega)
  rw [HU.out] at this; exact this
 have HDG : ∀ i, i < span (isDig hex) l → ∃ c, l[i]? = some c ∧ isDig hex c = true := fun i hi => span_lt hi
 have HEND : Hid (∀ c, l[span (isDig hex) l]? = some c → isDig hex c = false) := fun c hc => span_end hc
 generalize hNN : span (isDig hex) l = N at *
 have HNN := Lib.hid hNN
 have HD2 := Lib.hid HDG
 clear hNN hN HDG HEND
 cases hex
 · simp only [Bool.false_eq_true, if_false] at ha hsl
   subst ha
   subst hsl
   try have hpos1 : 1 ≤ s.size := hpos rfl
   clear hpos
   simp only [baseOf, Bool.false_eq_true, if_false] at HSP
   have HSP' := Lib.hid HSP
   clear HSP
   go_enter Tryz.func161, Tryz.ntmps161
   go_wp2_with (go_at_call 150; refine (hasPrefix_any _ _ _).mono ?_; rintro e w' ⟨rfl, rfl⟩; rw [HX.out])
   refine (HSP'.out _ _ (by simp [go_sem])).mono ?_
   rintro e w1 ⟨rfl, rfl⟩
   clear HSP' HX
   try generalize s.extract 1 s.size = u at *
   by_cases h8 : 8 < N
   · go_wp2
     go_ret3
     exact ⟨by rw [HS.out]; unfold numRef; rw [HNN.out, if_pos h8]; rfl, (Below.refl _ _).alloc (Nat.le_refl _) _⟩
   · by_cases hend : N = u.size
     · have e1 : ((N : Int) == (u.size : Int)) = true := beq_iff_eq.2 (by omega)
       have HE := Lib.hid hend
       clear hend
       go_wp2
       go_ret3
       exact ⟨by rw [HS.out]; unfold numRef; rw [HNN.out, if_neg h8, if_pos (by rw [hll, HE.out])]; rfl, (Below.refl _ _).alloc (Nat.le_refl _) _⟩
     · have hlt : N < u.size := by omega
       have e1 : ((N : Int) == (u.size : Int)) = false := beq_eq_false_iff_ne.2 (by omega)
       have hne : ¬ N = l.length := by rw [hll]; exact hend
       clear hend
       have hb : l[N]? = some u[N] := by
        have := congrArg (·[0]?) (drop_byte u N hlt)
        rw [HU.out] at this
        simpa using this
       have HB := Lib.hid hb
       clear hb
       by_cases h0 : N = 0
       · have e0 : ((N : Int) == 0) = true := beq_iff_eq.2 (by omega)
         have HE := Lib.hid h0
         clear h0
         go_wp2
         go_ret3
         exact ⟨by rw [HS.out]; unfold numRef; rw [HNN.out, if_neg h8, if_neg hne, if_pos (.inl HE.out)]; rfl, (Below.refl _ _).alloc (Nat.le_refl _) _⟩
       · have e0 : ((N : Int) == 0) = false := beq_eq_false_iff_ne.2 (by omega)
         by_cases h59 : u[N] = 59
         rotate_left
         · have e2 : (((u[N].toNat : Nat) : Int) != 59) = true := by
            rw [bne_iff_ne]; intro e; exact h59 (UInt8.toNat_inj.1 (by simpa using (by omega : u[N].toNat = 59)))
           have HE : Hid (l[N]? ≠ some 59) := by rw [HB.out]; show ¬ _; simpa using h59
           clear h59 HB
           go_wp2
           go_ret3
           exact ⟨by rw [HS.out]; unfold numRef; rw [HNN.out, if_neg h8, if_neg hne, if_pos (.inr HE.out)]; rfl, (Below.refl _ _).alloc (Nat.le_refl _) _⟩
         · have e2 : (((u[N].toNat : Nat) : Int) != 59) = false := by rw [h59]; decide
           have HE : Hid (l[N]? = some 59) := by rw [HB.out, h59]; rfl
           clear h59 HB
           go_wp2
           go_loopw [9, 40] (fun q i wr => ∃ j : Nat, j ≤ N ∧ i = .int .i64 j ∧ q = .int .i64 (numV false (l.take j)) ∧ Below w.heap.size w wr ∧ wr.cell? ⟨w.heap.size, 0, none⟩ = some (.int .i64 10)) (fun _ i _ => N - (intOf i).toNat)
           case atStart => exact ⟨0, Nat.zero_le _, rfl, by simp [numV], (Below.refl _ _).alloc (Nat.le_refl _) _, by simp [go_sem]⟩
           case round =>
            obtain ⟨j, hj, rfl, rfl, hb, hcell⟩ := hrel
            have hdl : ∀ c ∈ l.take j, isDig false c = true := fun c hc => by
             obtain ⟨i, hi, rfl⟩ := List.mem_iff_getElem.1 hc
             rw [List.length_take] at hi
             obtain ⟨c, h1, h2⟩ := HD2.out i (by omega)
             rw [List.getElem_take]
             obtain ⟨h3, h4⟩ := List.getElem?_eq_some_iff.1 h1
             rw [h4]; exact h2
            obtain ⟨b1, b2⟩ := numV_small false (l.take j) hdl (by rw [List.length_take]; omega)
            by_cases hjN : j < N
            · have hju : j < u.size := by omega
              have hcu : l[j]? = some u[j] := by
               have := congrArg (·[0]?) (drop_byte u j hju)
               rw [HU.out] at this
               simpa using this
              have hd0 : isDig false u[j] = true := by
               obtain ⟨c, h1, h2⟩ := HD2.out j hjN
               rw [hcu] at h1; cases h1; exact h2
              have v1 : 0 ≤ digitV u[j] false := by simpa [isDig] using hd0
              have v2 := (digitV_le u[j] false).2
              have HSN : Hid (numV false (l.take (j + 1)) = numV false (l.take j) * 10 + digitV u[j] false) := by
               show _ = _
               have : l.take (j + 1) = l.take j ++ [u[j]] := by rw [List.take_add_one, hcu]; rfl
               rw [this, numV_snoc]; rfl
              have HDI := Lib.hid (fun w => digit_any u[j] false w)
              simp only [baseOf, Bool.false_eq_true, if_false] at HDI
              clear hdl hcu hd0
              generalize numV false (l.take j) = K at *
              generalize digitV u[j] false = V at *
              have w1 := IntWalk.i64_in (K * 10) (by omega)
              have w2 := IntWalk.i64_in (K * 10 + V) (by omega)
              go_wp2
              go_quiet ((go_at_call 167; exact quietS (HDI.out _)))
              clear w1 w2
              go_wp2
              go_roundw
              case rel => exact ⟨j + 1, by omega, by go_num, by rw [HSN.out], belowN hb _, hcell⟩
              case measure => simp [intOf]; omega
            · obtain rfl : j = N := by omega
              have hok0 : span (isDig false) l = j := HNN.out
              cases hok : okLetter (numV false (l.take j))
              · have HO := Lib.hid hok
                have HLT := Lib.hid (fun w => letter_no _ w hok)
                clear hok hdl hok0
                generalize hK : numV false (l.take j) = K at *
                have HK := Lib.hid hK
                clear hK
                go_wp2_with (go_at_call 168; refine (HLT.out _).mono ?_; rintro e w2 ⟨rfl, hb2⟩)
                go_ret3
                refine ⟨?_, hb.trans (hb2.mono hb.size)⟩
                rw [HS.out]; unfold numRef
                rw [HNN.out, if_neg h8, if_neg hne, if_neg (by rw [HE.out]; simp [h0]), HK.out, HO.out]; rfl
              · have HO := Lib.hid hok
                have HLT := Lib.hid (fun w => letter_ok _ w hok)
                clear hok hdl hok0
                generalize hK : numV false (l.take j) = K at *
                have HK := Lib.hid hK
                clear hK
                go_wp2_with (go_at_call 168; refine (HLT.out _).mono ?_; rintro e w2 ⟨rfl, hb2⟩)
                go_ret3
                refine ⟨?_, hb.trans (hb2.mono hb.size)⟩
                rw [HS.out]; unfold numRef
                rw [HNN.out, if_neg h8, if_neg hne, if_neg (by rw [HE.out]; simp [h0]), HK.out, HO.out]
                simp only [if_true, refTuple]
                rw [show ((2 + j + 1 : Nat) : Int) = 2 + (j : Int) + 1 by omega]; rfl
 · simp only [if_true] at ha hsl
   subst ha
   subst hsl
   try have hpos1 : 1 ≤ s.size := hpos rfl
   clear hpos
   simp only [baseOf, if_true] at HSP
   have HSP' := Lib.hid HSP
   clear HSP
   go_enter Tryz.func161, Tryz.ntmps161
   go_wp2_with (go_at_call 150; refine (hasPrefix_any _ _ _).mono ?_; rintro e w' ⟨rfl, rfl⟩; rw [HX.out])
   refine (HSP'.out _ _ (by simp [go_sem])).mono ?_
   rintro e w1 ⟨rfl, rfl⟩
   clear HSP' HX
   try generalize s.extract 1 s.size = u at *
   by_cases h8 : 8 < N
   · go_wp2
     go_ret3
     exact ⟨by rw [HS.out]; unfold numRef; rw [HNN.out, if_pos h8]; rfl, (Below.refl _ _).alloc (Nat.le_refl _) _⟩
   · by_cases hend : N = u.size
     · have e1 : ((N : Int) == (u.size : Int)) = true := beq_iff_eq.2 (by omega)
       have HE := Lib.hid hend
       clear hend
       go_wp2
       go_ret3
       exact ⟨by rw [HS.out]; unfold numRef; rw [HNN.out, if_neg h8, if_pos (by rw [hll, HE.out])]; rfl, (Below.refl _ _).alloc (Nat.le_refl _) _⟩
     · have hlt : N < u.size := by omega
       have e1 : ((N : Int) == (u.size : Int)) = false := beq_eq_false_iff_ne.2 (by omega)
       have hne : ¬ N = l.length := by rw [hll]; exact hend
       clear hend
       have hb : l[N]? = some u[N] := by
        have := congrArg (·[0]?) (drop_byte u N hlt)
        rw [HU.out] at this
        simpa using this
       have HB := Lib.hid hb
       clear hb
       by_cases h0 : N = 0
       · have e0 : ((N : Int) == 0) = true := beq_iff_eq.2 (by omega)
         have HE := Lib.hid h0
         clear h0
         go_wp2
         go_ret3
         exact ⟨by rw [HS.out]; unfold numRef; rw [HNN.out, if_neg h8, if_neg hne, if_pos (.inl HE.out)]; rfl, (Below.refl _ _).alloc (Nat.le_refl _) _⟩
       · have e0 : ((N : Int) == 0) = false := beq_eq_false_iff_ne.2 (by omega)
         by_cases h59 : u[N] = 59
         rotate_left
         · have e2 : (((u[N].toNat : Nat) : Int) != 59) = true := by
            rw [bne_iff_ne]; intro e; exact h59 (UInt8.toNat_inj.1 (by simpa using (by omega : u[N].toNat = 59)))
           have HE : Hid (l[N]? ≠ some 59) := by rw [HB.out]; show ¬ _; simpa using h59
           clear h59 HB
           go_wp2
           go_ret3
           exact ⟨by rw [HS.out]; unfold numRef; rw [HNN.out, if_neg h8, if_neg hne, if_pos (.inr HE.out)]; rfl, (Below.refl _ _).alloc (Nat.le_refl _) _⟩
         · have e2 : (((u[N].toNat : Nat) : Int) != 59) = false := by rw [h59]; decide
           have HE : Hid (l[N]? = some 59) := by rw [HB.out, h59]; rfl
           clear h59 HB
           go_wp2
           go_loopw [9, 40] (fun q i wr => ∃ j : Nat, j ≤ N ∧ i = .int .i64 j ∧ q = .int .i64 (numV true (l.take j)) ∧ Below w.heap.size w wr ∧ wr.cell? ⟨w.heap.size, 0, none⟩ = some (.int .i64 16)) (fun _ i _ => N - (intOf i).toNat)
           case atStart => exact ⟨0, Nat.zero_le _, rfl, by simp [numV], (Below.refl _ _).alloc (Nat.le_refl _) _, by simp [go_sem]⟩
           case round =>
            obtain ⟨j, hj, rfl, rfl, hb, hcell⟩ := hrel
            have hdl : ∀ c ∈ l.take j, isDig true c = true := fun c hc => by
             obtain ⟨i, hi, rfl⟩ := List.mem_iff_getElem.1 hc
             rw [List.length_take] at hi
             obtain ⟨c, h1, h2⟩ := HD2.out i (by omega)
             rw [List.getElem_take]
             obtain ⟨h3, h4⟩ := List.getElem?_eq_some_iff.1 h1
             rw [h4]; exact h2
            obtain ⟨b1, b2⟩ := numV_small true (l.take j) hdl (by rw [List.length_take]; omega)
            by_cases hjN : j < N
            · have hju : j < u.size := by omega
              have hcu : l[j]? = some u[j] := by
               have := congrArg (·[0]?) (drop_byte u j hju)
               rw [HU.out] at this
               simpa using this
              have hd0 : isDig true u[j] = true := by
               obtain ⟨c, h1, h2⟩ := HD2.out j hjN
               rw [hcu] at h1; cases h1; exact h2
              have v1 : 0 ≤ digitV u[j] true := by simpa [isDig] using hd0
              have v2 := (digitV_le u[j] true).2
              have HSN : Hid (numV true (l.take (j + 1)) = numV true (l.take j) * 16 + digitV u[j] true) := by
               show _ = _
               have : l.take (j + 1) = l.take j ++ [u[j]] := by rw [List.take_add_one, hcu]; rfl
               rw [this, numV_snoc]; rfl
              have HDI := Lib.hid (fun w => digit_any u[j] true w)
              simp only [baseOf, if_true] at HDI
              clear hdl hcu hd0
              generalize numV true (l.take j) = K at *
              generalize digitV u[j] true = V at *
              have w1 := IntWalk.i64_in (K * 16) (by omega)
              have w2 := IntWalk.i64_in (K * 16 + V) (by omega)
              go_wp2
              go_quiet ((go_at_call 167; exact quietS (HDI.out _)))
              clear w1 w2
              go_wp2
              go_roundw
              case rel => exact ⟨j + 1, by omega, by go_num, by rw [HSN.out], belowN hb _, hcell⟩
              case measure => simp [intOf]; omega
            · obtain rfl : j = N := by omega
              have hok0 : span (isDig true) l = j := HNN.out
              cases hok : okLetter (numV true (l.take j))
              · have HO := Lib.hid hok
                have HLT := Lib.hid (fun w => letter_no _ w hok)
                clear hok hdl hok0
                generalize hK : numV true (l.take j) = K at *
                have HK := Lib.hid hK
                clear hK
                go_wp2_with (go_at_call 168; refine (HLT.out _).mono ?_; rintro e w2 ⟨rfl, hb2⟩)
                go_ret3
                refine ⟨?_, hb.trans (hb2.mono hb.size)⟩
                rw [HS.out]; unfold numRef
                rw [HNN.out, if_neg h8, if_neg hne, if_neg (by rw [HE.out]; simp [h0]), HK.out, HO.out]; rfl
              · have HO := Lib.hid hok
                have HLT := Lib.hid (fun w => letter_ok _ w hok)
                clear hok hdl hok0
                generalize hK : numV true (l.take j) = K at *
                have HK := Lib.hid hK
                clear hK
                go_wp2_with (go_at_call 168; refine (HLT.out _).mono ?_; rintro e w2 ⟨rfl, hb2⟩)
                go_ret3
                refine ⟨?_, hb.trans (hb2.mono hb.size)⟩
                rw [HS.out]; unfold numRef
                rw [HNN.out, if_neg h8, if_neg hne, if_neg (by rw [HE.out]; simp [h0]), HK.out, HO.out]
                simp only [if_true, refTuple]
                rw [show ((3 + j + 1 : Nat) : Int) = 3 + (j : Int) + 1 by omega]; rfl

end Go.Proofs.YtbbbfjcikhpmbaaGreat

/- The walk of Ref; its conditions stand in the theorems. -/

namespace Go.Proofs.YtbbbfjcikhpmbaaGreat
open Go Go.RowKit

theorem named_none (s : S) (w : World) (h : named s.data.toList = none) : Calls Tryz.prog 163 #[.string s] w fun e w' => e = .returned (.string ⟨#[]⟩) ∧ w = w' := by
 refine (named_any s w).mono fun e w' ⟨h1, h2⟩ => ⟨?_, h2⟩
 rw [h1]; unfold namedB; rw [h]; rfl
theorem named_some (s : S) (c : UInt8) (w : World) (h : named s.data.toList = some c) : Calls Tryz.prog 163 #[.string s] w fun e w' => e = .returned (.string ⟨#[c]⟩) ∧ w = w' := by
 refine (named_any s w).mono fun e w' ⟨h1, h2⟩ => ⟨?_, h2⟩
 rw [h1]; unfold namedB; rw [h]; rfl
def refTexts : List S := [⟨#[108, 116]⟩, ⟨#[103, 116]⟩, ⟨#[97, 109, 112]⟩, ⟨#[113, 117, 111, 116]⟩, ⟨#[97, 112, 111, 115]⟩]
/-- Is a word the beginning of one that is known? -/
def refAny (r : Bs) : List S → Bool
 | [] => false
 | t :: l => r.isPrefixOf t.data.toList || refAny r l
theorem refAny_eq (r : Bs) : refAny r refTexts = (r.isPrefixOf wLt || r.isPrefixOf wGt || r.isPrefixOf wAmp || r.isPrefixOf wQuot || r.isPrefixOf wApos) := by
 simp only [refAny, refTexts, Bool.or_false, Bool.or_assoc]; rfl
theorem ref_num (r : Bs) : refSpec (38 :: 35 :: r) = numSpec r := by
 simp only [refSpec]
 rw [if_neg (by simp)]
 cases r with
 | nil => rfl
 | cons x r =>
  by_cases hx : x = 120
  · subst hx; rfl
  · unfold numSpec
    simp [hx]
theorem ref_word (r : Bs) (h : r.head? ≠ some 35) : refSpec (38 :: r) = (if span cLower r = r.length then
        if refAny r refTexts then .bad 13 else .bad 12
      else match named (r.take (span cLower r)) with
       | some t => if r[span cLower r]? = some 59 then .ok [t] (span cLower r + 2) else .bad 12
       | none => .bad 12) := by
 rw [refAny_eq]
 simp only [refSpec]
 rw [if_neg (by simp)]
 split
 · simp at h
 · rfl
set_option maxRecDepth 100000 in
set_option maxHeartbeats 4000000 in
theorem ref_any (s : S) (w : World) (hs : s.size ≤ 1000000) :
    Calls Tryz.prog 154 #[.string s] w fun e w' => e = .returned (refTuple (refSpec s.data.toList)) ∧ Below w.heap.size w w' := by
 have hE0 := empty_data s
 by_cases h0 : s.size = 0
 · have hE : s.toList.isEmpty = true := by rw [hE0]; simpa using h0
   clear hE0
   have hd : s.data.toList = [] := List.eq_nil_of_length_eq_zero (by rw [size_data, h0])
   rw [hd]
   clear hd h0
   go_enter Tryz.func154, Tryz.ntmps154
   go_wp2
   go_ret3
   exact ⟨rfl, Below.refl _ _⟩
 · have hE : s.toList.isEmpty = false := by rw [hE0]; simpa using h0
   clear hE0
   have h1 : 0 < s.size := by omega
   have HD := Lib.hid (drop_byte s 0 h1)
   clear h0
   by_cases h38 : s[0] = 38
   rotate_left
   · have e2 : (((s[0].toNat : Nat) : Int) != 38) = true := by
      rw [bne_iff_ne]; intro e; exact h38 (UInt8.toNat_inj.1 (by simpa using (by omega : s[0].toNat = 38)))
     have HS : Hid (refSpec s.data.toList = .bad 12) := by
      have h2 := HD.out
      rw [List.drop_zero] at h2
      rw [h2]; show _ = _; simp only [refSpec]; rw [if_pos h38]
     clear h38
     go_enter Tryz.func154, Tryz.ntmps154
     go_wp2
     go_ret3
     exact ⟨by rw [HS.out]; rfl, Below.refl _ _⟩
   · have e2 : (((s[0].toNat : Nat) : Int) != 38) = false := by rw [h38]; decide
     obtain ⟨r, hr⟩ : ∃ r, s.data.toList = 38 :: r := ⟨s.data.toList.drop 1, by have := HD.out; rw [List.drop_zero, h38] at this; exact this⟩
     clear h38 HD
     have hrl : r.length + 1 = s.size := by rw [← size_data, hr]; simp
     by_cases hn : r.head? = some 35
     · obtain ⟨q, rfl⟩ : ∃ q, r = 35 :: q := by
        cases r with
        | nil => cases hn
        | cons x q => simp at hn; exact ⟨q, by rw [hn]⟩
       have HX : Hid ((⟨#[38, 35]⟩ : ByteArray).data.toList.isPrefixOf s.data.toList = true) := by rw [hr]; rfl
       have HU : Hid ((s.extract 2 s.size).data.toList = q) := by rw [Lib.extract_to_end, hr]; rfl
       have h2 : 2 ≤ s.size := by simp at hrl; omega
       have hus : (s.extract 2 s.size).size ≤ 1000000 := by rw [← size_data, HU.out]; simp at hrl; omega
       have HS : Hid (refSpec s.data.toList = numSpec q) := by rw [hr]; exact ref_num q
       clear hr hn
       go_enter Tryz.func154, Tryz.ntmps154
       go_wp2_with (go_at_call 150; refine (hasPrefix_any _ _ _).mono ?_; rintro e w' ⟨rfl, rfl⟩; rw [HX.out])
       generalize s.extract 2 s.size = u at *
       refine (number_any u _ hus).mono ?_
       rintro e w' ⟨rfl, hb⟩
       rw [HU.out]
       cases hq : numSpec q
       all_goals
        have HQ := Lib.hid hq
        clear hq
        simp only [refTuple]
        go_wp2
        go_ret3
        exact ⟨by rw [HS.out, HQ.out]; rfl, hb⟩
     · have HX : Hid ((⟨#[38, 35]⟩ : ByteArray).data.toList.isPrefixOf s.data.toList = false) := by
        rw [hr]; show ([38, 35] : Bs).isPrefixOf (38 :: r) = false
        cases r with
        | nil => rfl
        | cons x q => simp only [List.head?_cons, Option.some.injEq] at hn; simp [List.isPrefixOf, Ne.symm hn]
       have HU : Hid ((s.extract 1 s.size).data.toList = r) := by rw [Lib.extract_to_end, hr]; rfl
       have hus : (s.extract 1 s.size).size ≤ 1000000 := by rw [← size_data, HU.out]; omega
       have hN := span_le cLower r
       have hrw := ref_word r hn
       rw [← hr] at hrw
       have HS := Lib.hid hrw
       clear hrw
       have HV : Hid ((s.extract 1 (1 + span cLower r)).data.toList = r.take (span cLower r)) := by
        rw [Lib.extract_data, hr]; show _ = _; simp
       have hvs : (s.extract 1 (1 + span cLower r)).size ≤ 1000000 := by rw [← size_data, HV.out, List.length_take]; omega
       have HSP : Hid (∀ w, Calls Tryz.prog 130 #[.string (s.extract 1 s.size), .func (.func 162) #[] #[]] w fun e w' => e = .returned (.int .i64 (span cLower r)) ∧ w = w') := fun w => by
        have := spanLower_any (s.extract 1 s.size) w (by omega)
        rw [HU.out] at this; exact this
       have hget : ∀ h : 1 + span cLower r < s.size, r[span cLower r]? = some (s[1 + span cLower r]'h) := fun h => by
        have := congrArg (·[0]?) (drop_byte s (1 + span cLower r) h)
        rw [hr] at this
        simpa [Nat.add_comm 1] using this
       clear hn hr HU hus
       generalize hNN : span cLower r = N at *
       clear hNN
       have n1 : (1 : Int) ≤ 1 + (N : Int) := by omega
       by_cases hend : N = r.length
       · have e1 : (1 + (N : Int) == (s.size : Int)) = true := beq_iff_eq.2 (by omega)
         have hn1 : 1 + N ≤ s.size := by omega
         have HE := Lib.hid hend
         clear hget hend
         have HTK : Hid (r.take N = r) := by rw [HE.out]; exact List.take_length
         have HA : Hid (∀ j (h : j < 5), ∀ w, Calls Tryz.prog 150 #[.string (refTexts[j]'h), .string (s.extract 1 (1 + N))] w fun e w' => e = .returned (.bool (r.isPrefixOf (refTexts[j]'h).data.toList)) ∧ w = w') := fun j h w => by
          have := hasPrefix_any (refTexts[j]'h) (s.extract 1 (1 + N)) w
          rw [HV.out, HTK.out] at this; exact this
         have hcells : ∀ j (h : j < 5), (w.alloc (.cells #[.string ⟨#[108, 116]⟩, .string ⟨#[103, 116]⟩, .string ⟨#[97, 109, 112]⟩, .string ⟨#[113, 117, 111, 116]⟩, .string ⟨#[97, 112, 111, 115]⟩] 9)).cell? ⟨w.heap.size, j, none⟩ = some (.string (refTexts[j]'h)) := fun j h => by
          match j, h with
          | 0, _ => simp [go_sem, refTexts]
          | 1, _ => simp [go_sem, refTexts]
          | 2, _ => simp [go_sem, refTexts]
          | 3, _ => simp [go_sem, refTexts]
          | 4, _ => simp [go_sem, refTexts]
         have HC := Lib.hid hcells
         clear hcells
         go_enter Tryz.func154, Tryz.ntmps154
         go_wp2_with (first | (go_at_call 150; refine (hasPrefix_any _ _ _).mono ?_; rintro e w' ⟨rfl, rfl⟩; rw [HX.out]) | (go_at_call 130; refine (HSP.out _).mono ?_; rintro e w' ⟨rfl, rfl⟩))
         generalize s.extract 1 (1 + N) = v at *
         go_loop [8, 40] (fun _ i => ∃ j : Nat, j ≤ 5 ∧ i = .int .i64 j ∧ Hid (refAny r refTexts = refAny r (refTexts.drop j))) (fun _ i => 5 - (intOf i).toNat)
         case atStart => exact ⟨0, by omega, rfl, rfl⟩
         case round =>
          obtain ⟨j, hj, rfl, H⟩ := hrel
          by_cases hj5 : j < 5
          · have hcell := HC.out j hj5
            have HD : Hid (refAny r (refTexts.drop j) = (r.isPrefixOf (refTexts[j]'hj5).data.toList || refAny r (refTexts.drop (j + 1)))) := by
             rw [List.drop_eq_getElem_cons (show j < refTexts.length from hj5)]; rfl
            have HAj := Lib.hid (HA.out j hj5)
            generalize refTexts[j]'hj5 = t at *
            cases hp : r.isPrefixOf t.data.toList
            all_goals
             have HP := Lib.hid hp
             clear hp
             go_wp2_with (go_at_call 150; refine (HAj.out _).mono ?_; rintro e w' ⟨rfl, rfl⟩; rw [HP.out])
            · go_round
              case rel => exact ⟨j + 1, by omega, by go_num, by show _ = _; rw [H.out, HD.out, HP.out]; rfl⟩
              case measure => simp [intOf]; omega
            · go_ret3
              exact ⟨by rw [HS.out, if_pos HE.out, H.out, HD.out, HP.out]; rfl, (Below.refl _ _).alloc (Nat.le_refl _) _⟩
          · obtain rfl : j = 5 := by omega
            go_wp2
            go_ret3
            exact ⟨by rw [HS.out, if_pos HE.out, H.out]; rfl, (Below.refl _ _).alloc (Nat.le_refl _) _⟩
       · have e1 : (1 + (N : Int) == (s.size : Int)) = false := beq_eq_false_iff_ne.2 (by omega)
         have hlt : 1 + N < s.size := by omega
         have hc := hget hlt
         have HC := Lib.hid hc
         clear hget hc
         have HE := Lib.hid hend
         clear hend
         cases hm : named (r.take N) with
         | none =>
          have HM := Lib.hid hm
          have HNM : Hid (∀ w, Calls Tryz.prog 163 #[.string (s.extract 1 (1 + N))] w fun e w' => e = .returned (.string ⟨#[]⟩) ∧ w = w') := fun w => named_none _ w (by rw [HV.out]; exact hm)
          clear hm
          go_enter Tryz.func154, Tryz.ntmps154
          go_wp2_with (first | (go_at_call 150; refine (hasPrefix_any _ _ _).mono ?_; rintro e w' ⟨rfl, rfl⟩; rw [HX.out]) | (go_at_call 130; refine (HSP.out _).mono ?_; rintro e w' ⟨rfl, rfl⟩) | (go_at_call 163; refine (HNM.out _).mono ?_; rintro e w' ⟨rfl, rfl⟩))
          go_ret3
          exact ⟨by rw [HS.out, if_neg HE.out, HM.out]; rfl, Below.refl _ _⟩
         | some c =>
          have HM := Lib.hid hm
          have HNM : Hid (∀ w, Calls Tryz.prog 163 #[.string (s.extract 1 (1 + N))] w fun e w' => e = .returned (.string ⟨#[c]⟩) ∧ w = w') := fun w => named_some _ c w (by rw [HV.out]; exact hm)
          clear hm
          by_cases h59 : s[1 + N] = 59
          · have e3 : (((s[1 + N].toNat : Nat) : Int) == 59) = true := by rw [h59]; decide
            have HT := Lib.hid h59
            clear h59
            go_enter Tryz.func154, Tryz.ntmps154
            go_wp2_with (first | (go_at_call 150; refine (hasPrefix_any _ _ _).mono ?_; rintro e w' ⟨rfl, rfl⟩; rw [HX.out]) | (go_at_call 130; refine (HSP.out _).mono ?_; rintro e w' ⟨rfl, rfl⟩) | (go_at_call 163; refine (HNM.out _).mono ?_; rintro e w' ⟨rfl, rfl⟩))
            go_ret3
            exact ⟨by rw [HS.out, if_neg HE.out, HM.out]; simp only []; rw [if_pos (by rw [HC.out, HT.out])]; simp only [refTuple]; rw [show ((N + 2 : Nat) : Int) = (N : Int) + 2 by omega]; rfl, Below.refl _ _⟩
          · have e3 : (((s[1 + N].toNat : Nat) : Int) == 59) = false := by
             rw [beq_eq_false_iff_ne]; intro e; exact h59 (UInt8.toNat_inj.1 (by simpa using (by omega : s[1 + N].toNat = 59)))
            have HT := Lib.hid h59
            clear h59
            go_enter Tryz.func154, Tryz.ntmps154
            go_wp2_with (first | (go_at_call 150; refine (hasPrefix_any _ _ _).mono ?_; rintro e w' ⟨rfl, rfl⟩; rw [HX.out]) | (go_at_call 130; refine (HSP.out _).mono ?_; rintro e w' ⟨rfl, rfl⟩) | (go_at_call 163; refine (HNM.out _).mono ?_; rintro e w' ⟨rfl, rfl⟩))
            go_ret3
            exact ⟨by rw [HS.out, if_neg HE.out, HM.out]; simp only []; rw [if_neg (by rw [HC.out]; simpa using HT.out)]; rfl, Below.refl _ _⟩

end Go.Proofs.YtbbbfjcikhpmbaaGreat

/- The program's reader in memory; walks of its small methods; the conditions stand in the theorems. -/

namespace Go.Proofs.YtbbbfjcikhpmbaaGreat
open Go Go.RowKit

theorem wp_world {P : Program} {c : Code} {Q : Exit → Act → World → Prop} {a : Act} {w : World} (h : ∀ W, W = w → c.wp P Q a W) : c.wp P Q a w := h w rfl
theorem Calls.world {P : Program} {f : FuncId} {args : Array Value} {w : World} {R : Ending → World → Prop} (h : ∀ W, W = w → Calls P f args W R) : Calls P f args w R := h w rfl
/-- How many bytes of a text are ahead of what is left. -/
def pos (s : S) (l : Bs) : Nat := s.size - l.length
theorem pos_add {s : S} {l : Bs} (h : l <:+ s.data.toList) : pos s l + l.length = s.size := by
 have := h.length_le
 rw [size_data] at this
 unfold pos; omega
theorem pos_drop {s : S} {l : Bs} (h : l <:+ s.data.toList) : s.data.toList.drop (pos s l) = l := by
 have := List.suffix_iff_eq_drop.1 h
 rw [size_data] at this
 exact this.symm
theorem pos_extract {s : S} {l : Bs} (h : l <:+ s.data.toList) : s.extract (pos s l) s.size = bs l := by
 rw [Lib.extract_eq, pos_drop h]
 unfold bs
 rw [List.take_of_length_le (by have := pos_add h; omega)]
theorem pos_get {s : S} {l : Bs} {c : UInt8} (h : c :: l <:+ s.data.toList) (hk : pos s (c :: l) < s.size) : s[pos s (c :: l)] = c := by
 have h1 := drop_byte s _ hk
 rw [pos_drop h] at h1
 exact (List.cons.inj h1).1.symm
theorem pos_lt {s : S} {l : Bs} {c : UInt8} (h : c :: l <:+ s.data.toList) : pos s (c :: l) < s.size := by
 have := pos_add h
 simp only [List.length_cons] at this; omega
theorem pos_cons {s : S} {l : Bs} {c : UInt8} (h : c :: l <:+ s.data.toList) : pos s l = pos s (c :: l) + 1 := by
 have := pos_add h; have := pos_add (suf_tail h)
 simp only [List.length_cons] at *; omega
theorem pos_nil (s : S) : pos s [] = s.size := by unfold pos; simp
/-- The program's reader: the text, how far it was gone through, what was made. -/
structure Rd (w : World) (b : Nat) (s : S) (l : Bs) (ov : Value) : Prop where
 box : Box w b [.string s, .int .i64 (pos s l : Nat), ov]
 suf : l <:+ s.data.toList
theorem Box.grownB {w w' : World} {b : Nat} {cs : List Value} {r : Nat} (h : Box w b cs) (hg : w.grownBy w' (some r)) (hne : b ≠ r) : Box w' b cs := h.grown hg (by simpa using hne)
theorem Rd.c0 {w : World} {b : Nat} {s : S} {l : Bs} {ov : Value} (h : Rd w b s l ov) : w.cell? ⟨b, 0, none⟩ = some (.string s) := h.box.cell 0 _ rfl
theorem Rd.c1 {w : World} {b : Nat} {s : S} {l : Bs} {ov : Value} (h : Rd w b s l ov) : w.cell? ⟨b, 1, none⟩ = some (.int .i64 (pos s l : Nat)) := h.box.cell 1 _ rfl
theorem Rd.c2 {w : World} {b : Nat} {s : S} {l : Bs} {ov : Value} (h : Rd w b s l ov) : w.cell? ⟨b, 2, none⟩ = some ov := h.box.cell 2 _ rfl
theorem Rd.f1 {w : World} {b : Nat} {s : S} {l : Bs} {ov : Value} (h : Rd w b s l ov) : w.frozen? ⟨b, 1, none⟩ = false := h.box.free 1
theorem Rd.below {w w' : World} {b : Nat} {s : S} {l : Bs} {ov : Value} (h : Rd w b s l ov) (hb : Below w.heap.size w w') : Rd w' b s l ov := ⟨h.box.below hb h.box.lt, h.suf⟩
theorem Rd.drewN {w : World} {b : Nat} {s : S} {l : Bs} {ov : Value} (h : Rd w b s l ov) (n : Nat) : Rd (w.drewN n) b s l ov := ⟨h.box.drewN n, h.suf⟩
/-- The post of a function that reads alone: it may have drawn. -/
def Qt (v : Value) (w : World) (e : Ending) (w' : World) : Prop := e = .returned v ∧ ∃ n, w' = w.drewN n
theorem Qt.quiet {P : Program} {f : FuncId} {args : Array Value} {w : World} {n : Nat} {v : Value} (h : Calls P f args (w.drewN n) (Qt v (w.drewN n))) : Calls P f args (w.drewN n) fun e w'' => e = .returned v ∧ ∃ m, w'' = w.drewN m := Calls.quiet_of h
set_option maxHeartbeats 1000000 in
theorem rest_any (b : Nat) (s : S) (l : Bs) (ov : Value) (w : World) (h : Rd w b s l ov) :
    Calls Tryz.prog 151 #[.pointer (some ⟨b, 0, none⟩)] w (Qt (.string (bs l)) w) := by
 have c0 := h.c0
 have c1 := h.c1
 have hp := pos_add h.suf
 have HE := Lib.hid (pos_extract h.suf)
 have h1 : pos s l ≤ s.size := by omega
 clear h
 generalize pos s l = p at *
 have h2 : (p : Int) ≤ (s.size : Int) := by omega
 go_enter Tryz.func151, Tryz.ntmps151
 go_wp2
 go_quiet (fail)
 go_wp2
 go_ret
 exact ⟨by rw [HE.out]; rfl, ⟨_, rfl⟩⟩
set_option maxHeartbeats 1000000 in
theorem ends_any (b : Nat) (s : S) (l : Bs) (ov : Value) (w : World) (h : Rd w b s l ov) :
    Calls Tryz.prog 110 #[.pointer (some ⟨b, 0, none⟩)] w (Qt (.bool l.isEmpty) w) := by
 have c0 := h.c0
 have c1 := h.c1
 have hp := pos_add h.suf
 clear h
 generalize pos s l = p at *
 go_enter Tryz.func110, Tryz.ntmps110
 go_wp2
 go_quiet (fail)
 go_wp2
 go_ret
 refine ⟨ret_bool ?_, ⟨_, rfl⟩⟩
 cases l with
 | nil => simp at hp ⊢; omega
 | cons c l => simp at hp ⊢; omega
set_option maxHeartbeats 1000000 in
theorem has_pre (b : Nat) (s : S) (l : Bs) (ov : Value) (t : S) (w : World) (h : Rd w b s l ov) :
    Calls Tryz.prog 134 #[.pointer (some ⟨b, 0, none⟩), .string t] w (Qt (.bool (t.data.toList.isPrefixOf l)) w) := by
 have HP := Lib.hid (fun w => hasPrefix_any (bs l) t w)
 rw [bs_data] at HP
 go_enter Tryz.func134, Tryz.ntmps134
 go_wp2_with fail
 refine (rest_any b s l ov w h).mono ?_
 rintro e w' ⟨rfl, n, rfl⟩
 generalize bs l = u at *
 go_wp2_with fail
 refine (HP.out _).mono ?_
 rintro e w' ⟨rfl, rfl⟩
 go_wp2
 go_ret
 exact ⟨rfl, ⟨_, rfl⟩⟩
/-- What goes wrong, as a panic. -/
def faultV (e : Int) (n : Nat) : Value := .iface 147 (.agg #[.int .i64 e, .int .i64 n])
theorem fail_any (e : Int) (n : Nat) (w : World) :
    Calls Tryz.prog 152 #[.int .i64 e, .int .i64 n] w fun x w' => x = .panicked [{ v := faultV e n, recovered := false }] ∧ w = w' := by
 go_enter Tryz.func152, Tryz.ntmps152
 go_wp2
 exact ⟨rfl, rfl, rfl⟩
theorem grownN (w : World) (n : Nat) (row : Option Nat) : w.grownBy (w.drewN n) row := ⟨rfl, rfl, rfl, Nat.le_refl _, fun _ _ _ => rfl⟩
theorem grownOf {w w' : World} (h : Below w.heap.size w w') (row : Option Nat) : w.grownBy w' row := ⟨h.os, h.tape, h.output, h.size, fun k hk _ => h.block k hk⟩
theorem Box.set {w : World} {b : Nat} {cs : List Value} (h : Box w b cs) (j : Nat) (u : Value) : Box (w.setCell ⟨b, j, none⟩ u) b (cs.set j u) := by
 refine ⟨by simpa [World.setCell] using h.lt, fun i v hv => ?_, fun i => ?_⟩
 · rw [List.getElem?_set] at hv
   split at hv
   · rename_i hij
     subst hij
     split at hv
     · rename_i hlt
       cases hv
       have h1 := h.cell j cs[j] (by simp [hlt])
       exact World.cell?_setCell_same w _ _ h1
     · cases hv
   · rename_i hij
     rw [World.cell?_setCell_other w _ _ _ (by simp)]
     exact h.cell i v hv
 · have := h.free i
   simpa [World.frozen?_setCell] using this
theorem Rd.move {w : World} {b : Nat} {s : S} {l : Bs} {ov : Value} (h : Rd w b s l ov) {r : Bs} {v : Value} (hr : r <:+ s.data.toList) (hv : v = .int .i64 (pos s r : Nat)) : Rd (w.setCell ⟨b, 1, none⟩ v) b s r ov := by
 subst hv
 exact ⟨h.box.set 1 _, hr⟩

end Go.Proofs.YtbbbfjcikhpmbaaGreat

/- Slices that the call itself has made: ownership, append, stores; no program in sight. -/
namespace Go.Proofs.YtbbbfjcikhpmbaaGreat
open Go Go.RowKit

theorem flat_get {α : Type} {C : α → List Value} {n : Nat} (hC : ∀ x, (C x).length = n) : ∀ (l : List α) (i j : Nat) (x : α), l[i]? = some x → j < n → (l.flatMap C)[i * n + j]? = (C x)[j]?
 | [], i, j, x, h, _ => by simp at h
 | y :: l, 0, j, x, h, hj => by
  simp at h; subst h
  rw [List.flatMap_cons, List.getElem?_append_left (by rw [hC]; omega)]; simp
 | y :: l, i + 1, j, x, h, hj => by
  have h' : l[i]? = some x := by simpa using h
  rw [List.flatMap_cons, List.getElem?_append_right (by rw [hC, Nat.add_mul]; omega), hC, ← flat_get hC l i j x h' hj]
  congr 1
  rw [Nat.add_mul]; omega
theorem flat_len {α : Type} {C : α → List Value} {n : Nat} (hC : ∀ x, (C x).length = n) (l : List α) : (l.flatMap C).length = l.length * n := by
 induction l with
 | nil => simp
 | cons x l ih => rw [List.flatMap_cons, List.length_append, hC, ih, List.length_cons, Nat.add_mul]; omega
theorem flat_split {α : Type} {C : α → List Value} {n : Nat} (hC : ∀ x, (C x).length = n) (hn : 0 < n) {l : List α} {j : Nat} {u : Value} (h : (l.flatMap C)[j]? = some u) :
    ∃ x, l[j / n]? = some x ∧ (C x)[j % n]? = some u := by
 have hj : j < (l.flatMap C).length := (List.getElem?_eq_some_iff.1 h).1
 rw [flat_len hC] at hj
 have hd : j / n < l.length := Nat.div_lt_of_lt_mul (by rw [Nat.mul_comm]; exact hj)
 refine ⟨l[j / n], by simp [hd], ?_⟩
 rw [← flat_get hC l (j / n) (j % n) l[j / n] (by simp [hd]) (Nat.mod_lt _ hn), Nat.div_add_mod' j n]
 exact h
/-- The slice value v owns the list l: it is nil, or begins at the head of a row of the call's own. -/
def Owns {α : Type} (base : Nat) (E : TypeId) (n : Nat) (C : α → List Value) (w : World) (v : Value) (l : List α) : Prop := w.ownsRow base E n v l.length (l.flatMap C)
theorem Owns.slice {α : Type} {base : Nat} {E : TypeId} {n : Nat} {C : α → List Value} {w : World} {v : Value} {l : List α} (h : Owns base E n C w v l) (hC : ∀ x, (C x).length = n) : SliceOf n C w v l := by
 obtain ⟨h1, h2⟩ := h
 rcases h2 with ⟨rfl, h0⟩ | ⟨g, cap, cur, rfl, hb, hg, hnc, hm, hcs, ht⟩
 · obtain rfl := List.eq_nil_of_length_eq_zero h0
   exact SliceOf.nil
 · refine ⟨_, cap, rfl, hnc, hm, by simp, fun i x hx => ⟨g, 0, rfl, (Array.getElem?_eq_some_iff.1 hg).1, fun j u hu => ?_⟩⟩
   have hj : j < n := by rw [← hC x]; exact (List.getElem?_eq_some_iff.1 hu).1
   have hi : i < l.length := (List.getElem?_eq_some_iff.1 hx).1
   have hlt : i * n + j < l.length * n := by
    have : (i + 1) * n ≤ l.length * n := Nat.mul_le_mul_right _ hi
    rw [Nat.add_mul] at this; omega
   rw [Nat.zero_add, cell_of_row w g _ cur E (0, 0) hg]
   have := flat_get hC l i j x hx hj
   rw [← ht, List.getElem?_take, if_pos hlt, hu] at this
   simpa using this
theorem Owns.shape {α : Type} {base : Nat} {E : TypeId} {n : Nat} {C : α → List Value} {w : World} {v : Value} {l : List α} (h : Owns base E n C w v l) : ∃ ao cap, v = .slice ao l.length cap := by
 rcases h.2 with ⟨rfl, h0⟩ | ⟨g, cap, cur, rfl, _⟩
 · exact ⟨none, 0, by rw [h0]⟩
 · exact ⟨_, _, rfl⟩
theorem Owns.nil {α : Type} {base : Nat} {E : TypeId} {n : Nat} {C : α → List Value} {w : World} : Owns base E n C w (.slice none 0 0) ([] : List α) := World.ownsRow_nil _ _ _ _
theorem Owns.base_mono {α : Type} {base base' : Nat} {E : TypeId} {n : Nat} {C : α → List Value} {w : World} {v : Value} {l : List α} (h : Owns base E n C w v l) (hb : base' ≤ base) : Owns base' E n C w v l := by
 refine ⟨h.1, ?_⟩
 rcases h.2 with h | ⟨g, cap, cur, h1, h2, h3⟩
 · exact .inl h
 · exact .inr ⟨g, cap, cur, h1, Nat.le_trans hb h2, h3⟩
theorem Owns.kept {α : Type} {base : Nat} {E : TypeId} {n : Nat} {C : α → List Value} {w w' : World} {v : Value} {l : List α} {row : Option Nat} (h : Owns base E n C w v l) (hg : w.grownBy w' row) (hne : v.ownBlock = none ∨ v.ownBlock ≠ row) : Owns base E n C w' v l :=
 World.ownsRow.kept h hg hne
theorem Owns.below {α : Type} {base : Nat} {E : TypeId} {n : Nat} {C : α → List Value} {w w' : World} {v : Value} {l : List α} (h : Owns base E n C w v l) (hb : Below w.heap.size w w') : Owns base E n C w' v l :=
 h.kept (row := none) ⟨hb.os, hb.tape, hb.output, hb.size, fun k hk _ => hb.block k hk⟩ (by cases v.ownBlock <;> simp)
theorem Owns.alloc {α : Type} {base : Nat} {E : TypeId} {n : Nat} {C : α → List Value} {w : World} {v : Value} {l : List α} (h : Owns base E n C w v l) (o : Obj) : Owns base E n C (w.alloc o) v l :=
 h.below ((Below.refl _ _).alloc (Nat.le_refl _) _)
theorem Owns.lt {α : Type} {base : Nat} {E : TypeId} {n : Nat} {C : α → List Value} {w : World} {v : Value} {l : List α} (h : Owns base E n C w v l) : ∀ k, v.ownBlock = some k → base ≤ k ∧ k < w.heap.size := World.ownsRow.lt h
/-- A slice literal, just made. -/
theorem sliceLit {α : Type} {n : Nat} {C : α → List Value} (hC : ∀ x, (C x).length = n) (w : World) (l : List α) (T : TypeId) (H k : Nat) (hH : w.heap.size = H) (hk : k = l.length) (hl : l.length ≤ maxLen) :
    SliceOf n C (w.alloc (.cells (l.flatMap C).toArray T)) (.slice (some ⟨H, 0, none⟩) k k) l := by
 subst hH; subst hk
 refine ⟨_, _, rfl, Nat.le_refl _, hl, by simp, fun i x hx => ⟨_, _, rfl, by simp, fun j u hu => ?_⟩⟩
 have hj : j < n := by rw [← hC x]; exact (List.getElem?_eq_some_iff.1 hu).1
 rw [cell_of_row (w.alloc (.cells (l.flatMap C).toArray T)) w.heap.size _ _ T (0, 0) (heap_alloc_new w _)]
 rw [Nat.zero_add]
 simp only [List.getElem?_toArray]
 rw [flat_get hC l i j x hx hj, hu]
/-- append of any slice to one of the call's own. -/
theorem wpList_append_slice {α : Type} {P : Program} (w : World) {ops : Array Oper} {rest : List Oper} {o : Oper} {a : Act} {Q : Exit → Act → World → Prop} (hgd : o.guard = none) (s x : Operand) (t : TypeId)
    (ho : o.op = .call { callee := .builtin .append, args := #[s, x], argTypes := #[t, t] })
    (base : Nat) (e : TypeId) {z : Value} {size bytes : Nat} (ht : P.underlying t = some (.slice e)) (hinfo : (P.info? e).map (fun i => (i.zero, i.size, i.bytes)) = some (some z, size, bytes)) (hzs : z.cells.size = size) (hsz : 0 < size) {C : α → List Value} (hC : ∀ y, (C y).length = size)
    (v : Value) (l : List α) (hs : a.eval s = v) (hown : Owns base e size C w v l) (v2 : Value) (l2 : List α) (hx : a.eval x = v2) (hsl : SliceOf size C w v2 l2) (h1 : ∀ y ∈ l2, ∀ u ∈ C y, u.oneCell' = true)
    (hbytes : (l.length + l2.length) * bytes ≤ 140737488355328) (hb0 : 0 < bytes) (hbase : base ≤ w.heap.size)
    (h : ∀ v' w', Owns base e size C w' v' (l ++ l2) → w.grownBy w' v.ownBlock → (v'.ownBlock = v.ownBlock ∨ v'.ownBlock = some w.heap.size) → wpList P ops Q rest (a.put o.dst v') w') : wpList P ops Q (o :: rest) a w := by
 have hlen63 : l.length + l2.length ≤ maxLen := by
  have : l.length + l2.length ≤ (l.length + l2.length) * bytes := Nat.le_mul_of_pos_right _ hb0
  unfold maxLen; omega
 obtain ⟨i, hi, hz, hsize, hby⟩ := info_parts hinfo
 obtain ⟨ao, cap, rfl, hcap, hm, hn, hc⟩ := hsl
 cases ao with
 | none =>
  have h0 : cap = 0 := hn rfl
  subst h0
  obtain rfl := List.eq_nil_of_length_eq_zero (Nat.le_zero.1 hcap)
  exact wpList_append_own_none hgd s x t ho base e i size ht hi v l.length (l.flatMap C) hs hown hx (h v w (by simpa using hown) (World.grownBy.refl _ _) (.inl rfl))
 | some ad =>
  refine wpList_plain hgd fun K hK => ?_
  have hnews : ∀ j u, (l2.flatMap C)[j]? = some u → w.cell? (ad.add j) = some u := by
   intro j u hu
   obtain ⟨y, hy, hyu⟩ := flat_split hC hsz hu
   obtain ⟨b, o', ha, _, hcell⟩ := hc _ _ hy
   cases ha
   rw [Addr.add_lit]
   have := hcell _ _ hyu
   rwa [Nat.add_assoc, Nat.div_add_mod' j size] at this
  obtain ⟨v', w', hr, h2, h3, h4, hloc⟩ := run_append_own_at (P := P) w base t o.type e i z size bytes ht hi hz hsize hby hzs hsz v l.length (l.flatMap C) hown ad l2.length cap (l2.flatMap C) (by rw [flat_len hC]) hnews
   (by intro u hu; obtain ⟨y, hy, huy⟩ := List.mem_flatMap.1 hu; exact h1 y hy u huy) hlen63 hbytes hbase
  unfold Oper.wp execOp
  simp only [ho, resolve, invoke, builtin, Sem.run_bind, Sem.run_pure, Result.andThen_ok, List.map_toArray, List.map_cons, List.map_nil, hs, hx, hr]
  exact hK _ _ (h v' w' (by unfold Owns; rw [List.length_append, List.flatMap_append]; exact h2) h3 hloc)

end Go.Proofs.YtbbbfjcikhpmbaaGreat

/- A store into one cell of an element of an owned slice; no program in sight. -/
namespace Go.Proofs.YtbbbfjcikhpmbaaGreat
open Go Go.RowKit

theorem flat_set {α : Type} {C : α → List Value} {n : Nat} (hC : ∀ x, (C x).length = n) {l : List α} {k j : Nat} {x x' : α} {u : Value} (hk : l[k]? = some x) (hj : j < n) (hx : C x' = (C x).set j u) :
    (l.set k x').flatMap C = (l.flatMap C).set (k * n + j) u := by
 have hlt : k < l.length := (List.getElem?_eq_some_iff.1 hk).1
 have hn : 0 < n := by omega
 have hkn : k * n + j < l.length * n := by
  have : (k + 1) * n ≤ l.length * n := Nat.mul_le_mul_right _ hlt
  rw [Nat.add_mul] at this; omega
 apply List.ext_getElem?
 intro i
 by_cases hi : i < l.length * n
 · have hil : i / n < l.length := Nat.div_lt_of_lt_mul (by rw [Nat.mul_comm]; exact hi)
   have hm : i % n < n := Nat.mod_lt _ hn
   have ei : i = i / n * n + i % n := (Nat.div_add_mod' i n).symm
   rw [List.getElem?_set]
   by_cases hik : i / n = k
   · have h1 : (l.set k x')[i / n]? = some x' := by rw [hik]; simp [hlt]
     have h2 : l[i / n]? = some x := by rw [hik, hk]
     have e1 := flat_get hC (l.set k x') (i / n) (i % n) x' h1 hm
     have e2 := flat_get hC l (i / n) (i % n) x h2 hm
     rw [← ei] at e1 e2
     rw [e1, e2, hx, List.getElem?_set, flat_len hC, hC]
     have : (k * n + j = i) ↔ (j = i % n) := by
      constructor
      · intro h; rw [ei, hik] at h; omega
      · intro h; rw [ei, hik]; omega
     by_cases hji : j = i % n
     · rw [if_pos hji, if_pos (this.2 hji), if_pos hj, if_pos hkn]
     · rw [if_neg hji, if_neg (fun h => hji (this.1 h))]
   · have h1 : (l.set k x')[i / n]? = some l[i / n] := by rw [List.getElem?_set_ne (by omega)]; simp [hil]
     have h2 : l[i / n]? = some l[i / n] := by simp [hil]
     have e1 := flat_get hC (l.set k x') (i / n) (i % n) _ h1 hm
     have e2 := flat_get hC l (i / n) (i % n) _ h2 hm
     rw [← ei] at e1 e2
     rw [e1, e2]
     have : ¬ k * n + j = i := by
      intro h
      apply hik
      rw [← h, Nat.mul_comm, Nat.mul_add_div hn, Nat.div_eq_of_lt hj]; rfl
     rw [if_neg this]
 · rw [List.getElem?_eq_none (by rw [flat_len hC, List.length_set]; omega), List.getElem?_eq_none (by rw [List.length_set, flat_len hC]; omega)]
theorem own_store {α : Type} {base : Nat} {E : TypeId} {n : Nat} {C : α → List Value} (hC : ∀ x, (C x).length = n) {w : World} {ao : Option Addr} {len cap : Nat} {l : List α} {k j : Nat} {x : α}
    (h : Owns base E n C w (.slice ao len cap) l) (hk : l[k]? = some x) (hj : j < n) :
    ∃ g, ao = some ⟨g, 0, none⟩ ∧ base ≤ g ∧ g < w.heap.size ∧ w.cell? ⟨g, k * n + j, none⟩ = (C x)[j]? ∧ w.frozen? ⟨g, k * n + j, none⟩ = false ∧
     (∀ i u, (C x)[i]? = some u → w.cell? ⟨g, k * n + i, none⟩ = some u) ∧
     ∀ u x', C x' = (C x).set j u → Owns base E n C (w.setCell ⟨g, k * n + j, none⟩ u) (.slice ao len cap) (l.set k x') := by
 have hlt : k < l.length := (List.getElem?_eq_some_iff.1 hk).1
 have hkn : ∀ i, i < n → k * n + i < l.length * n := fun i hi => by
  have : (k + 1) * n ≤ l.length * n := Nat.mul_le_mul_right _ hlt
  rw [Nat.add_mul] at this; omega
 rcases h.2 with ⟨he, h0⟩ | ⟨g, cap', cur, he, hb, hg, hnc, hm, hcs, ht⟩
 · omega
 · cases he
   have hc : ∀ i, i < n → w.cell? ⟨g, k * n + i, none⟩ = (C x)[i]? := fun i hi => by
    rw [World.ownsRow.cellAt h (k * n + i) (hkn i hi), flat_get hC l k i x hk hi]
   refine ⟨g, rfl, hb, (Array.getElem?_eq_some_iff.1 hg).1, hc j hj, World.ownsRow.frozenAt h _, fun i u hu => ?_, fun u x' hx => ?_⟩
   · have hi : i < n := by rw [← hC x]; exact (List.getElem?_eq_some_iff.1 hu).1
     rw [hc i hi, hu]
   · unfold Owns
     rw [List.length_set, flat_set hC hk hj hx]
     exact (World.ownsRow.stored h (k * n + j) u).1
theorem setCell_grown (w : World) (g j : Nat) (u : Value) : w.grownBy (w.setCell ⟨g, j, none⟩ u) (some g) :=
 ⟨rfl, rfl, rfl, by simp [World.setCell], fun k _ hk => Below.heap_setCell w ⟨g, j, none⟩ u k (fun e => hk (by simp [e]))⟩
theorem Owns.keptR {α : Type} {base : Nat} {E : TypeId} {n : Nat} {C : α → List Value} {w w' : World} {v : Value} {l : List α} {r : Nat} (h : Owns base E n C w v l) (hg : w.grownBy w' (some r)) (hr : r < base) : Owns base E n C w' v l := by
 refine h.kept hg ?_
 cases hv : v.ownBlock with
 | none => exact .inl rfl
 | some k => right; have := (h.lt k hv).1; simp; omega
theorem Box.setCells {w : World} {b : Nat} {old cs : List Value} (h : Box w b old) (hl : old.length = cs.length) : Box (w.setCells b 0 cs) b cs := by
 have hth : w.there b 0 cs.length := fun j hj => by
  refine ⟨?_, by simpa using h.free (0 + j)⟩
  rw [Nat.zero_add, h.cell j old[j] (by simp [hl, hj])]; rfl
 have hr := World.rangeAt_setCells_same w b 0 cs hth
 have hg : ∀ (vs : List Value) (o : Nat) (w : World), (w.setCells b o vs).heap.size = w.heap.size := by
  intro vs
  induction vs with
  | nil => intro o w; rfl
  | cons v vs ih => intro o w; simp only [World.setCells]; rw [ih]; simp [World.setCell]
 refine ⟨by rw [hg]; exact h.lt, fun j u hu => by simpa using hr j u hu, fun j => ?_⟩
 rw [World.frozen?_setCells]; exact h.free j
theorem setCells_grown (b : Nat) : ∀ (vs : List Value) (o : Nat) (w : World), w.grownBy (w.setCells b o vs) (some b)
 | [], _, w => World.grownBy.refl _ _
 | v :: vs, o, w => ((⟨rfl, rfl, rfl, by simp [World.setCell], fun k _ hk => Below.heap_setCell w ⟨b, o, none⟩ v k (fun e => hk (by simp [e]))⟩ : w.grownBy (w.setCell ⟨b, o, none⟩ v) (some b))).trans (setCells_grown b vs (o + 1) _)
/-- A store of a whole struct into a variable of the call's own. -/
theorem wpList_store_box {P : Program} {ops : Array Oper} {rest : List Oper} {op : Oper} {a : Act} {w : World} {Q : Exit → Act → World → Prop} (hgd : op.guard = none) (ty : TypeId) (x y : Operand) (ho : op.op = .store ty x y)
    (b : Nat) (old cs : List Value) (hx : a.eval x = .pointer (some ⟨b, 0, none⟩)) (hy : a.eval y = .agg cs.toArray) (hb : Box w b old) (hl : old.length = cs.length)
    (hi : (P.info? ty).map (·.size) = some cs.length) (h1 : ∀ v ∈ cs, v.oneCell' = true)
    (h : ∀ W', Box W' b cs → w.grownBy W' (some b) → wpList P ops Q rest (a.put op.dst undef) W') : wpList P ops Q (op :: rest) a w := by
 have hth : w.there b 0 cs.toArray.size := fun j hj => by
  have hj' : j < old.length := by rw [hl]; simpa using hj
  refine ⟨?_, by simpa using hb.free (0 + j)⟩
  rw [Nat.zero_add, hb.cell j old[j] (by simp [hj'])]; rfl
 exact wpList_store_mid hgd ty x y ho b 0 cs.toArray hx hy hth (by simpa using hi) (all_oneCell_toArray h1) (h _ (hb.setCells hl) (setCells_grown b _ 0 w))

end Go.Proofs.YtbbbfjcikhpmbaaGreat
