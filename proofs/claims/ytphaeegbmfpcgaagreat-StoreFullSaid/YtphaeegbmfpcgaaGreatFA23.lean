/- Numbers' texts, and the document's number's; the conditions stand in the theorem. -/
import Derived.Test.YtphaeegbmfpcgaaGreatFA13
import Derived.Test.YtphaeegbmfpcgaaGreatFA14
import Derived.Test.YtphaeegbmfpcgaaGreatFA17
import Derived.IntWalk
import Derived.Test.YtphaeegbmfpcgaaGreatFA22
import Derived.LoopTactic
import Derived.Test.YtphaeegbmfpcgaaGreatRows
import Derived.Test.YtphaeegbmfpcgaaGreatFA03
import Derived.Test.YtphaeegbmfpcgaaGreatShelf
import Derived.WalkKit
import Derived.ProofKit
import Derived.OpenShut
import Derived.Test.YtphaeegbmfpcgaaGreatProg
import Derived.Test.YtphaeegbmfpcgaaGreatFA01
import Derived.Deep.Slices
import Derived.HandedShaped
namespace Go.Proofs.YtphaeegbmfpcgaaGreat
open Go Go.RowKit

def valP (l : Bs) : Nat := l.foldl (fun a c => a * 10 + (c.toNat - 48)) 0
theorem digQ_nat {d : Nat} (h : d < 10) : (digQ d).toNat = 48 + d := by
 rcases (by omega : d = 0 ∨ d = 1 ∨ d = 2 ∨ d = 3 ∨ d = 4 ∨ d = 5 ∨ d = 6 ∨ d = 7 ∨ d = 8 ∨ d = 9) with rfl | rfl | rfl | rfl | rfl | rfl | rfl | rfl | rfl | rfl <;> rfl
theorem valP_num (n : Nat) : valP (numP n) = n := by
 induction n using Nat.strongRecOn with
 | ind n ih =>
  rw [numP]
  split
  · rename_i h
    show 0 * 10 + ((digQ n).toNat - 48) = n
    rw [digQ_nat h]; omega
  · rename_i h
    unfold valP
    rw [List.foldl_append]
    show valP (numP (n / 10)) * 10 + ((digQ (n % 10)).toNat - 48) = n
    rw [ih (n / 10) (by omega), digQ_nat (by omega)]; omega
theorem numP_inj {n m : Nat} (h : numP n = numP m) : n = m := by rw [← valP_num n, ← valP_num m, h]
theorem numP_dig (n : Nat) : ∀ c ∈ numP n, cDigit c = true := by
 induction n using Nat.strongRecOn with
 | ind n ih =>
  rw [numP]
  have hd : ∀ d, d < 10 → cDigit (digQ d) = true := fun d h => by
   rcases (by omega : d = 0 ∨ d = 1 ∨ d = 2 ∨ d = 3 ∨ d = 4 ∨ d = 5 ∨ d = 6 ∨ d = 7 ∨ d = 8 ∨ d = 9) with rfl | rfl | rfl | rfl | rfl | rfl | rfl | rfl | rfl | rfl <;> rfl
  split
  · rename_i h
    intro c hc
    obtain rfl := List.mem_singleton.1 hc
    exact hd n h
  · rename_i h
    intro c hc
    rcases List.mem_append.1 hc with hc | hc
    · exact ih (n / 10) (by omega) c hc
    · obtain rfl := List.mem_singleton.1 hc
      exact hd _ (by omega)
def nmUpd (n : Nat) (x0 x1 x3 x4 x5 x6 x7 x8 x9 : Value) (f0 f1 f2 f3 f4 f5 f6 f7 f8 f9 f10 : Bool) (H : Nat) : Act :=
 ⟨#[x0, x1, cond f10 (.string (bs (numP n))) (.string ⟨#[]⟩), x3, x4, x5, x6, x7, x8, x9, cond f0 (.int .i64 (n : Nat)) undef, cond f1 (.int .i64 ((n : Int) / 10)) undef, cond f2 (.string (bs (numP (n / 10)))) undef, cond f3 (.int .i64 (n : Nat)) undef, cond f4 (.int .i64 ((n : Int) % 10)) undef, cond f5 (.int .i64 (48 + (n : Int) % 10)) undef, cond f6 (.int .u8 (48 + (n : Int) % 10)) undef, cond f7 (.slice (some ⟨H, 0, none⟩) 1 1) undef, cond f8 (.string (bs [digQ (n % 10)])) undef, cond f9 (.string (bs (numP n))) undef], []⟩
def nmJ (n : Nat) (V : World) (x0 x1 x3 x4 x5 x6 x7 x8 x9 : Value) (listed : Array Bool) (atx : Act) (w' : World) : Prop :=
 ∃ (f0 f1 f2 f3 f4 f5 f6 f7 f8 f9 f10 : Bool) (H : Nat), listed = #[f0, f1, f2, f3, f4, f5, f6, f7, f8, f9, f10] ∧ atx = nmUpd n x0 x1 x3 x4 x5 x6 x7 x8 x9 f0 f1 f2 f3 f4 f5 f6 f7 f8 f9 f10 H ∧ Hid (f8 = true → f7 = true) ∧ Below V.heap.size V w' ∧ (f7 = true → H < w'.heap.size ∧ w'.cell? ⟨H, 0, none⟩ = some (.int .u8 (48 + (n : Int) % 10)))
theorem nm_cell (w : World) (x : Value) (T : TypeId) (fz : Nat × Nat) : (w.alloc (.cells #[x] T fz)).cell? ⟨w.heap.size, 0, none⟩ = some x := by
 rw [cell_of_row _ w.heap.size 0 _ T fz (heap_alloc_new w _)]; rfl
theorem nm_conv (w : World) (H d : Nat) (hd : d < 10) (hc : w.cell? ⟨H, 0, none⟩ = some (.int .u8 ((48 + d : Nat) : Int))) : (convert 67 9 (.slice (some ⟨H, 0, none⟩) 1 1)).run Tryz.prog w = .ok (.string (bs [digQ d])) w :=
 run_convert_bytes_back (P := Tryz.prog) w 67 9 5 ⟨H, 0, none⟩ 1 [digQ d] Tryz.underlying67 Tryz.underlying5 Tryz.underlying9 (fun j hj => by
  obtain rfl : j = 0 := by simp at hj; omega
  have h1 : (digQ d).toNat = 48 + d := digQ_nat hd
  simpa [Lib.byteCells, h1, Addr.add] using hc)
set_option maxRecDepth 100000 in
set_option maxHeartbeats 8000000 in
theorem refNumber_anyS (n : Nat) (hn : n ≤ 1000000) : ∀ (w : World), Calls Tryz.prog 6 #[.int .i64 (n : Nat)] w fun e w' => e = .returned (.string (bs (numP n))) ∧ Below w.heap.size w w' := by
 induction n using Nat.strongRecOn with
 | ind n ih =>
  intro w
  have hHn : w.heap.size = w.heap.size := rfl
  by_cases h10 : n < 10
  · have hi : (n : Int) < 10 := by omega
    have hd : numP n = [digQ n] := by rw [numP, if_pos h10]; rfl
    have hw8 : IntKind.u8.wrap (48 + (n : Int)) = 48 + (n : Int) := by unfold IntKind.wrap; simp [IntKind.bits, IntKind.signed]; omega
    have HV := Lib.hid (nm_conv (w.alloc (.cells #[.int .u8 (48 + (n : Int))] 5)) w.heap.size n h10 (by rw [nm_cell]; rfl))
    rw [hd]
    clear hd ih hHn
    go_enter Tryz.func6, Tryz.ntmps6
    go_upto_region 2 with fail
    have hv := HV.out
    go_wp2
    go_ret
    exact ⟨rfl, (Below.refl _ _).alloc (Nat.le_refl _) _⟩
  · have hi : ¬ ((n : Int) < 10) := by omega
    have hr10 : n % 10 < 10 := by omega
    have hq : (n : Int).tdiv 10 = (n : Int) / 10 := Int.tdiv_eq_ediv_of_nonneg (by omega)
    have hm : (n : Int).tmod 10 = (n : Int) % 10 := Int.tmod_eq_emod_of_nonneg (by omega)
    have hw1 : IntKind.i64.wrap ((n : Int) / 10) = (n : Int) / 10 := IntWalk.i64_in _ (by omega)
    have hw2 : IntKind.i64.wrap ((n : Int) % 10) = (n : Int) % 10 := IntWalk.i64_in _ (by omega)
    have hw3 : IntKind.i64.wrap (48 + (n : Int) % 10) = 48 + (n : Int) % 10 := IntWalk.i64_in _ (by omega)
    have hw4 : IntKind.u8.wrap (48 + (n : Int) % 10) = 48 + (n : Int) % 10 := by unfold IntKind.wrap; simp [IntKind.bits, IntKind.signed]; omega
    have hw0 : IntKind.i64.wrap (n : Int) = (n : Int) := IntWalk.i64_in _ (by omega)
    have HC : Hid (∀ W : World, Calls Tryz.prog 6 #[.int .i64 ((n : Int) / 10)] W fun e w' => e = .returned (.string (bs (numP (n / 10)))) ∧ Below W.heap.size W w') := Lib.hid (by rw [show ((n : Int) / 10) = ((n / 10 : Nat) : Int) from by omega]; exact ih (n / 10) (by omega) (by omega))
    have hN : numP n = numP (n / 10) ++ [digQ (n % 10)] := by rw [numP, if_neg h10]; rfl
    have HNZ : Hid ((numP n).length ≤ n + 1) := Lib.hid (numP_len n)
    have HPS : Hid (¬ 9223372036854775807 < (bs (numP (n / 10))).size + (bs [digQ (n % 10)]).size) := by show ¬ _; rw [bs_size, bs_size]; have := numP_len (n / 10); simp only [List.length_cons, List.length_nil]; omega
    have HN2 : Hid (bs (numP (n / 10)) ++ bs [digQ (n % 10)] = bs (numP n)) := by show _ = _; rw [hN]; exact bs_append _ _
    clear hN ih hHn
    go_enter Tryz.func6, Tryz.ntmps6
    go_upto_region 3 with fail
    refine wp_region_flags0 (nmJ n w _ _ _ _ _ _ _ _ _) (by kernel_rfl) 11 rfl (by kernel_rfl) ⟨false, false, false, false, false, false, false, false, false, false, false, w.heap.size, rfl, rfl, Lib.hid (by simp), belowN (Below.refl _ _) 1, by simp⟩ ?fin ?step
    case fin =>
     rintro a' w' ⟨f0, f1, f2, f3, f4, f5, f6, f7, f8, f9, f10, H, hl, rfl, a8, hB, h7⟩
     have hl' : [true, true, true, true, true, true, true, true, true, true, true] = [f0, f1, f2, f3, f4, f5, f6, f7, f8, f9, f10] := congrArg Array.toList hl
     simp only [List.cons.injEq, and_true] at hl'
     obtain ⟨rfl, rfl, rfl, rfl, rfl, rfl, rfl, rfl, rfl, rfl, rfl⟩ := hl'
     unfold nmUpd
     simp only [cond_true]
     go_wp2
     go_ret
     exact ⟨rfl, hB⟩
    case step =>
     rintro listed a' w' ⟨f0, f1, f2, f3, f4, f5, f6, f7, f8, f9, f10, H, rfl, rfl, a8, hB, h7⟩ i hi
     rw [mem_ready] at hi
     obtain ⟨hu, o, ho, ha⟩ := hi
     have hi8 : i < 11 := (Array.getElem?_eq_some_iff.1 ho).1
     rcases (by omega : i = 0 ∨ i = 1 ∨ i = 2 ∨ i = 3 ∨ i = 4 ∨ i = 5 ∨ i = 6 ∨ i = 7 ∨ i = 8 ∨ i = 9 ∨ i = 10) with rfl | rfl | rfl | rfl | rfl | rfl | rfl | rfl | rfl | rfl | rfl
     · have ho' := ho
       simp at hu ho
       subst hu ho
       clear ha
       have hS := hB.size
       refine .inl ?_
       unfold nmUpd Oper.wp
       go_simp
       exact ⟨true, f1, f2, f3, f4, f5, f6, f7, f8, f9, f10, H, rfl, rfl, a8, hB, h7⟩
     · have ho' := ho
       simp at hu ho
       subst hu ho
       simp [Region.binds] at ha
       obtain rfl : f0 = true := by simp only [ha]
       clear ha
       have hS := hB.size
       refine .inl ?_
       unfold nmUpd Oper.wp
       go_simp
       exact ⟨true, true, f2, f3, f4, f5, f6, f7, f8, f9, f10, H, rfl, rfl, a8, hB, h7⟩
     · have ho' := ho
       simp at hu ho
       subst hu ho
       simp [Region.binds] at ha
       obtain rfl : f1 = true := by simp only [ha]
       clear ha
       have hS := hB.size
       refine .inl ?_
       unfold nmUpd Oper.wp
       go_simp
       refine (HC.out w').mono ?_
       rintro e w1 ⟨rfl, hb⟩
       exact ⟨f0, true, true, f3, f4, f5, f6, f7, f8, f9, f10, H, rfl, rfl, a8, hB.trans (hb.mono hS), fun h => ⟨Nat.lt_of_lt_of_le (h7 h).1 hb.size, (hb.cell (by exact (h7 h).1)).trans (h7 h).2⟩⟩
     · have ho' := ho
       simp at hu ho
       subst hu ho
       clear ha
       have hS := hB.size
       refine .inl ?_
       unfold nmUpd Oper.wp
       go_simp
       exact ⟨f0, f1, f2, true, f4, f5, f6, f7, f8, f9, f10, H, rfl, rfl, a8, hB, h7⟩
     · have ho' := ho
       simp at hu ho
       subst hu ho
       simp [Region.binds] at ha
       obtain rfl : f3 = true := by simp only [ha]
       clear ha
       have hS := hB.size
       refine .inl ?_
       unfold nmUpd Oper.wp
       go_simp
       exact ⟨f0, f1, f2, true, true, f5, f6, f7, f8, f9, f10, H, rfl, rfl, a8, hB, h7⟩
     · have ho' := ho
       simp at hu ho
       subst hu ho
       simp [Region.binds] at ha
       obtain rfl : f4 = true := by simp only [ha]
       clear ha
       have hS := hB.size
       refine .inl ?_
       unfold nmUpd Oper.wp
       go_simp
       exact ⟨f0, f1, f2, f3, true, true, f6, f7, f8, f9, f10, H, rfl, rfl, a8, hB, h7⟩
     · have ho' := ho
       simp at hu ho
       subst hu ho
       simp [Region.binds] at ha
       obtain rfl : f5 = true := by simp only [ha]
       clear ha
       have hS := hB.size
       refine .inl ?_
       unfold nmUpd Oper.wp
       go_simp
       exact ⟨f0, f1, f2, f3, f4, true, true, f7, f8, f9, f10, H, rfl, rfl, a8, hB, h7⟩
     · have ho' := ho
       simp at hu ho
       subst hu ho
       simp [Region.binds] at ha
       obtain rfl : f6 = true := by simp only [ha]
       clear ha
       have hS := hB.size
       have e8 : f8 = false := Bool.eq_false_iff.2 fun h => Bool.false_ne_true (a8.out h)
       subst e8
       refine .inl ?_
       unfold nmUpd Oper.wp
       go_simp
       exact ⟨f0, f1, f2, f3, f4, f5, true, true, false, f9, f10, w'.heap.size, rfl, rfl, Lib.hid (by simp), hB.alloc hS _, fun _ => ⟨by simp, nm_cell w' _ _ _⟩⟩
     · have ho' := ho
       simp at hu ho
       subst hu ho
       simp [Region.binds] at ha
       obtain rfl : f7 = true := by simp only [ha]
       clear ha
       have hS := hB.size
       have kc := nm_conv w' H (n % 10) hr10 ((h7 rfl).2.trans (by rw [show (48 + (n : Int) % 10) = ((48 + n % 10 : Nat) : Int) from by omega]))
       refine .inl ?_
       unfold nmUpd Oper.wp
       go_simp
       exact ⟨f0, f1, f2, f3, f4, f5, f6, true, true, f9, f10, H, rfl, rfl, Lib.hid (by simp), hB, h7⟩
     · have ho' := ho
       simp at hu ho
       subst hu ho
       simp [Region.binds] at ha
       obtain rfl : f2 = true := by simp only [ha]
       obtain rfl : f8 = true := by simp only [ha]
       clear ha
       have hS := hB.size
       have hpn := HN2.out
       have hps := HPS.out
       refine .inl ?_
       unfold nmUpd Oper.wp
       go_simp
       exact ⟨f0, f1, true, f3, f4, f5, f6, f7, true, true, f10, H, rfl, rfl, a8, hB, h7⟩
     · have ho' := ho
       simp at hu ho
       subst hu ho
       simp [Region.binds] at ha
       obtain rfl : f9 = true := by simp only [ha]
       clear ha
       have hS := hB.size
       refine .inl ?_
       unfold nmUpd Oper.wp
       go_simp
       exact ⟨f0, f1, f2, f3, f4, f5, f6, f7, f8, true, true, H, rfl, rfl, a8, hB, h7⟩

end Go.Proofs.YtphaeegbmfpcgaaGreat

/- The walk of the law StoreFull; the conditions stand in the theorems. -/
namespace Go.Proofs.YtphaeegbmfpcgaaGreat
open Go Go.RowKit

def numGav (k : Nat) : Gav := ⟨⟨#[103]⟩, ⟨#[97]⟩, bs (numP (k + 1))⟩
theorem numP_short : ∀ (j n : Nat), n < 10 ^ (j + 1) → (numP n).length ≤ j + 1
 | 0, n, h => by rw [numP, if_pos (by simpa using h)]; simp
 | j + 1, n, h => by
  rw [numP]
  split
  · simp
  · rw [List.length_append]
    have := numP_short j (n / 10) (by rw [Nat.div_lt_iff_lt_mul (by decide)]; rw [Nat.pow_succ] at h; exact h)
    simp; omega
theorem numP_pos (n : Nat) : 1 ≤ (numP n).length := by
 rw [numP]
 split <;> simp
theorem num_may {k : Nat} (h : k < 1024) : gavMay (numGav k) = true := by
 have h1 : isIdB ⟨#[103]⟩ = true := by kernel_rfl
 have h2 : isIdB ⟨#[97]⟩ = true := by kernel_rfl
 have h3 : verMay (bs (numP (k + 1))) = true := by
  unfold verMay
  have ha : (bs (numP (k + 1))).data.toList = numP (k + 1) := by simp [bs]
  have hs : (bs (numP (k + 1))).size = (numP (k + 1)).length := by simp [bs, ByteArray.size]
  rw [ha, hs, Bool.and_eq_true, Bool.and_eq_true]
  refine ⟨⟨?_, decide_eq_true (numP_pos _)⟩, decide_eq_true (Nat.le_trans (numP_short 3 (k + 1) (by show k + 1 < 10 ^ 4; omega)) (by decide))⟩
  rw [List.all_eq_true]
  intro c hc
  have := numP_dig _ c hc
  unfold cDigit at this
  simp only [Bool.and_eq_true, decide_eq_true_eq] at this
  exact verByte_iff.2 (.inr (.inr (.inl this)))
 unfold gavMay numGav
 rw [h1, h2, h3]; rfl
theorem num_ne {j k : Nat} (h : numGav j = numGav k) : j = k := by
 have h1 : bs (numP (j + 1)) = bs (numP (k + 1)) := congrArg Gav.version h
 have h2 : numP (j + 1) = numP (k + 1) := by
  have := congrArg (fun s : S => s.data.toList) h1
  simpa [bs] using this
 have := numP_inj h2
 omega
/-- The store holds the first k of them. -/
def NumsOf (es : List (SEnt × Nat)) (k : Nat) : Prop := es.map (fun e => e.1.gav) = (List.range k).map numGav
theorem NumsOf.len {es : List (SEnt × Nat)} {k : Nat} (h : NumsOf es k) : es.length = k := by
 have := congrArg List.length h
 simpa using this
theorem hasG_iff {es : List (SEnt × Nat)} {g : Gav} : hasG es g = true ↔ g ∈ es.map fun e => e.1.gav := by
 unfold hasG
 rw [List.find?_isSome, List.mem_map]
 constructor
 · rintro ⟨x, hx, h⟩; exact ⟨x, hx, (of_decide_eq_true h).symm⟩
 · rintro ⟨x, hx, h⟩; exact ⟨x, hx, decide_eq_true h.symm⟩
theorem NumsOf.has {es : List (SEnt × Nat)} {k : Nat} (h : NumsOf es k) (g : Gav) : hasG es g = true ↔ ∃ j, j < k ∧ numGav j = g := by
 rw [hasG_iff, show es.map (fun e => e.1.gav) = _ from h, List.mem_map]
 simp
theorem NumsOf.next {es : List (SEnt × Nat)} {k : Nat} (h : NumsOf es k) (s : S) (eb : Nat) : NumsOf (es ++ [(freshE (numGav k) s, eb)]) (k + 1) := by
 unfold NumsOf
 rw [List.map_append, show es.map (fun e => e.1.gav) = _ from h, List.range_succ, List.map_append]
 rfl
theorem NumsOf.put {es : List (SEnt × Nat)} {k : Nat} (h : NumsOf es k) (hk : k < 1024) : putE es (numGav k) = 0 := by
 unfold putE
 have hf : hasG es (numGav k) = false := by
  rw [Bool.eq_false_iff]
  intro e
  obtain ⟨j, hj, he⟩ := (h.has _).1 e
  have := num_ne he
  omega
 rw [if_neg (by rw [num_may hk]; simp), hf, if_neg (by simp), if_neg (by rw [h.len]; omega)]
def gavH : Gav := ⟨⟨#[104]⟩, ⟨#[97]⟩, ⟨#[49]⟩⟩
theorem gavH_may : gavMay gavH = true := by kernel_rfl
theorem num0 : numGav 0 = gavL := by
 unfold numGav
 rw [show numP (0 + 1) = [49] from by rw [numP]; rfl]
 rfl
theorem NumsOf.twice {es : List (SEnt × Nat)} {k : Nat} (h : NumsOf es k) (hk : 0 < k) : putE es gavL = 4 := by
 unfold putE
 rw [if_neg (by rw [gavL_may]; simp), (h.has gavL).2 ⟨0, hk, num0⟩, if_pos rfl]
theorem NumsOf.other {es : List (SEnt × Nat)} {k : Nat} (h : NumsOf es k) : putE es gavH = if 1024 ≤ k then 2 else 0 := by
 have hf : hasG es gavH = false := by
  rw [Bool.eq_false_iff]
  intro e
  obtain ⟨j, -, he⟩ := (h.has _).1 e
  have h2 : (numGav j).group = gavH.group := congrArg Gav.group he
  exact absurd h2 (by show (⟨#[103]⟩ : S) ≠ ⟨#[104]⟩; decide)
 unfold putE
 rw [if_neg (by rw [gavH_may]; simp), hf, if_neg (by simp), h.len]
theorem putE_ways (es : List (SEnt × Nat)) (g : Gav) : (gavMay g = false ∧ putE es g = 1) ∨ (gavMay g = true ∧ putE es g = 4) ∨ (gavMay g = true ∧ putE es g = 2) ∨ (gavMay g = true ∧ putE es g = 0 ∧ es.length < 1024) := by
 unfold putE
 cases gavMay g with
 | false => exact .inl ⟨rfl, by simp⟩
 | true =>
  cases hasG es g with
  | true => exact .inr (.inl ⟨rfl, by simp⟩)
  | false =>
   by_cases h : 1024 ≤ es.length
   · exact .inr (.inr (.inl ⟨rfl, by simp [h]⟩))
   · exact .inr (.inr (.inr ⟨rfl, by simp [h], by omega⟩))
theorem num_sm {k : Nat} (h : k < 1024) : gavSm (numGav k) := by
 have h3 : (bs (numP (k + 1))).size = (numP (k + 1)).length := by simp [bs, ByteArray.size]
 have := numP_short 3 (k + 1) (by show k + 1 < 10 ^ 4; omega)
 exact ⟨of_decide_eq_true (by kernel_rfl : decide ((⟨#[103]⟩ : S).size ≤ 9223372036854775807) = true), of_decide_eq_true (by kernel_rfl : decide ((⟨#[97]⟩ : S).size ≤ 9223372036854775807) = true), by show (bs (numP (k + 1))).size ≤ _; omega⟩
set_option maxRecDepth 100000 in
set_option maxHeartbeats 16000000 in
theorem storeFull_any (n : Int) (g : Gav) (m : Int) (w : World) (hm : w.cell? ⟨0, 0, none⟩ = some (.int .i64 m)) : Calls Tryz.prog 3 #[.int .i64 n, .agg #[.string g.group, .string g.artifact, .string g.version]] w fun e w' => e = .returned (.bool true) ∧ Below w.heap.size w w' := by
 have HM := Lib.hid hm
 have HW0 : Hid (0 < w.heap.size) := World.block_lt_of_cell? w _ hm
 clear hm
 go_enter Tryz.func3, Tryz.ntmps3
 go_upto_region 1 with fail
 refine wp_world ?_
 intro W hW
 have x1 : Box W w.heap.size [.string g.group, .string g.artifact, .string g.version] := by rw [hW]; exact Box.new w [.string g.group, .string g.artifact, .string g.version] _ _ rfl
 have hb : Below w.heap.size w W := by rw [hW]; exact (Below.refl _ w).alloc (Nat.le_refl _) _
 clear hW
 have HX := Lib.hid x1
 have HB := Lib.hid hb
 clear x1 hb
 obtain ⟨N, hN, hN2⟩ : ∃ N : Nat, max 0 (min n 1024) = (N : Int) ∧ N ≤ 1024 := ⟨(max 0 (min n 1024)).toNat, by omega, by omega⟩
 go_upto_region 2 with fail
 clear hN
 go_wp2_with fail
 refine (new_any W).mono ?_
 rintro e w1 ⟨b, F, rfl, hS, hF, hb1⟩
 have HS1 := Lib.hid hS
 have HF1 : Hid (∀ k, F k → w.heap.size < k) := fun k hk => Nat.lt_of_lt_of_le HX.out.lt (hF k hk)
 have HX1 := Lib.hid (HX.out.below hb1 HX.out.lt)
 have HB1 := Lib.hid (HB.out.trans (hb1.mono HB.out.size))
 clear hS hF hb1 HX HB
 have HN2 := Lib.hid hN2
 clear hN2
 unfold ptr
 go_wp2
 go_loopw [15] (fun i wr => ∃ (k : Nat) (F : Nat → Prop) (es : List (SEnt × Nat)), i = .int .i64 k ∧ k ≤ N ∧ Hid (StoreAt F wr b es 0 0) ∧ Hid (∀ j, F j → w.heap.size < j) ∧ Hid (NumsOf es k) ∧ Hid (Box wr w.heap.size [.string g.group, .string g.artifact, .string g.version]) ∧ Hid (Below w.heap.size w wr)) (fun i _ => N - (intOf i).toNat)
 case atStart => exact ⟨0, F, [], rfl, Nat.zero_le _, HS1, HF1, rfl, HX1, HB1⟩
 case round =>
  obtain ⟨k, F, es, rfl, hk, HS, HFk, HNM, HX, HB⟩ := hrel
  by_cases hlt : k < N
  · have HNU : Hid (∀ V, Calls Tryz.prog 6 #[.int .i64 ((k : Int) + 1)] V fun e w' => e = .returned (.string (bs (numP (k + 1)))) ∧ Below V.heap.size V w') := fun V => by
     have := refNumber_anyS (k + 1) (by have := HN2.out; omega) V
     simpa using this
    have hw : IntKind.i64.wrap ((k : Int) + 1) = (k : Int) + 1 := IntWalk.i64_in _ (by have := HN2.out; omega)
    go_wp2_with fail
    refine (HNU.out _).mono ?_
    rintro e w2 ⟨rfl, hb2⟩
    have HS2 := Lib.hid (HS.out.below hb2)
    have HX2 := Lib.hid (HX.out.below hb2 HX.out.lt)
    have HB2 := Lib.hid (HB.out.trans (hb2.mono HB.out.size))
    clear hb2 HS HX HB HNU
    have hpe := HNM.out.put (by have := HN2.out; omega)
    go_wp2_with fail
    refine (put_any (numGav k) ⟨#[]⟩ w2 HS2.out (num_sm (by have := HN2.out; omega))).mono ?_
    rintro e w3 ⟨rfl, ho, F', es', hS', hF', -, hes⟩
    obtain ⟨eb, rfl⟩ := hes hpe
    rw [hpe]
    have HS3 := Lib.hid hS'
    have HF3 : Hid (∀ j, F' j → w.heap.size < j) := fun j hj => by
     by_cases h : j < w2.heap.size
     · exact HFk.out j (hF' j h hj)
     · have := HX2.out.lt; omega
    have HX3 := Lib.hid (HX2.out.only ho (fun h => by have := HFk.out _ h; omega))
    have HB3 := Lib.hid (HB2.out.trans (ho.below HB2.out.size fun j hj => by have := HFk.out j hj; omega))
    clear hes hpe hS' hF' ho HS2 HX2 HB2
    go_wp2
    go_roundw
    case rel => exact ⟨k + 1, F', _, by go_num, hlt, HS3, HF3, HNM.out.next _ _, HX3, HB3⟩
    case measure => simp [intOf]; omega
  · obtain rfl : k = N := by omega
    clear HS1 HF1 HX1 HB1 hk hlt
    have HLV : Hid (∀ V, Below w.heap.size w V → Calls Tryz.prog 7 #[] V fun e w' => e = .returned (.bool true) ∧ Below V.heap.size V w') := fun V hb => storeLives_any m V ((hb.cell (by exact HW0.out)).trans HM.out)
    have hF0 : ∀ j, F j → w.heap.size ≤ j := fun j hj => by have := HFk.out j hj; omega
    have HF0 := Lib.hid hF0
    clear hF0
    rcases (by have := HN2.out; omega : k = 1024 ∨ k < 1024) with hk | hk
    · have d1 : ((k : Int) == 1024) = true := by rw [beq_iff_eq]; omega
      have d1' : (k == 1024) = true := by rw [beq_iff_eq]; omega
      have HK := Lib.hid hk
      clear hk
      obtain ⟨x0, x1, x2⟩ := bxc3 HX.out
      have xl := HX.out.lt
      by_cases hg0 : 400 < g.group.size
      · have c0 : decide ((400 : Int) < (g.group.size : Int)) = true := decide_eq_true (by omega)
        have c0' : decide (400 < g.group.size) = true := decide_eq_true hg0
        clear hg0
        go_wp2_with fail
        refine (HLV.out _ HB.out).mono ?_
        rintro e wz ⟨rfl, hbz⟩
        go_wp2
        go_ret
        exact ⟨rfl, HB.out.trans (hbz.mono HB.out.size)⟩
      have c0 : decide ((400 : Int) < (g.group.size : Int)) = false := decide_eq_false (by omega)
      have c0' : decide (400 < g.group.size) = false := decide_eq_false hg0
      by_cases hg1 : 400 < g.artifact.size
      · have c1 : decide ((400 : Int) < (g.artifact.size : Int)) = true := decide_eq_true (by omega)
        have c1' : decide (400 < g.artifact.size) = true := decide_eq_true hg1
        clear hg1
        go_wp2_with fail
        refine (HLV.out _ HB.out).mono ?_
        rintro e wz ⟨rfl, hbz⟩
        go_wp2
        go_ret
        exact ⟨rfl, HB.out.trans (hbz.mono HB.out.size)⟩
      have c1 : decide ((400 : Int) < (g.artifact.size : Int)) = false := decide_eq_false (by omega)
      have c1' : decide (400 < g.artifact.size) = false := decide_eq_false hg1
      by_cases hg2 : 400 < g.version.size
      · have c2 : decide ((400 : Int) < (g.version.size : Int)) = true := decide_eq_true (by omega)
        have c2' : decide (400 < g.version.size) = true := decide_eq_true hg2
        clear hg2
        go_wp2_with fail
        refine (HLV.out _ HB.out).mono ?_
        rintro e wz ⟨rfl, hbz⟩
        go_wp2
        go_ret
        exact ⟨rfl, HB.out.trans (hbz.mono HB.out.size)⟩
      have c2 : decide ((400 : Int) < (g.version.size : Int)) = false := decide_eq_false (by omega)
      have c2' : decide (400 < g.version.size) = false := decide_eq_false hg2
      have HSM : Hid (gavSm g) := ⟨by omega, by omega, by omega⟩
      clear hg0 hg1 hg2
      go_wp2_with fail
      refine (put_any g ⟨#[120]⟩ wr HS.out HSM.out).mono ?_
      rintro e w2 ⟨rfl, ho, F2, es2, hS2, hF2, hno, hyes⟩
      have HS2 := Lib.hid hS2
      have HX2 := Lib.hid (HX.out.only ho (fun h => by have := HFk.out _ h; omega))
      have HB2 := Lib.hid (HB.out.trans (ho.below HB.out.size HF0.out))
      have HF2 : Hid (∀ j, F2 j → w.heap.size ≤ j) := fun j hj => by
       by_cases h : j < wr.heap.size
       · exact HF0.out j (hF2 j h hj)
       · have := HB.out.size; omega
      have HNO := Lib.hid hno
      have HYES := Lib.hid hyes
      clear ho hS2 hF2 hno hyes x0 x1 x2 xl HS HX HB
      obtain ⟨x0, x1, x2⟩ := bxc3 HX2.out
      have xl := HX2.out.lt
      rcases putE_ways es g with ⟨hm, hp⟩ | ⟨hm, hp⟩ | ⟨hm, hp⟩ | ⟨hm, hp, hl⟩
      · rw [hp]
        have HP := Lib.hid hp
        have HMG : Hid (∀ V, Calls Tryz.prog 8 #[.agg #[.string g.group, .string g.artifact, .string g.version]] V fun e w' => e = .returned (.bool (gavMay g)) ∧ Below V.heap.size V w') := fun V => refMayGav_any g V HSM.out
        rw [hm] at HMG
        clear hp hm
        go_wp2_with fail
        refine (HMG.out _).mono ?_
        rintro e w3 ⟨rfl, hb3⟩
        have HS3 := Lib.hid (HS2.out.below hb3)
        have HB3 := Lib.hid (HB2.out.trans (hb3.mono HB2.out.size))
        clear hb3 HS2 HX2 HB2 HMG x0 x1 x2 xl
        obtain rfl := HNO.out (by rw [HP.out]; decide)
        have HPL := Lib.hid (HNM.out.twice (by have := HK.out; omega))
        have z1 : ((k : Int) == 0) = false := by rw [beq_eq_false_iff_ne]; have := HK.out; omega
        have z1' : (k == 0) = false := by rw [beq_eq_false_iff_ne]; have := HK.out; omega
        have z2 : ((k : Int) = 0) = False := eq_false (by have := HK.out; omega)
        go_wp2_with fail
        refine (put_any gavL ⟨#[]⟩ w3 HS3.out ⟨by decide, by decide, by decide⟩).mono ?_
        rintro e w5 ⟨rfl, ho5, F5, es5, hS5, hF5, hno5, -⟩
        rw [HPL.out]
        obtain rfl := hno5 (by rw [HPL.out]; decide)
        have HS5 := Lib.hid hS5
        have HBX := Lib.hid (HB3.out.trans (ho5.below HB3.out.size HF2.out))
        have HFX : Hid (∀ j, F5 j → w.heap.size ≤ j) := fun j hj => by
         by_cases h : j < w3.heap.size
         · exact HF2.out j (hF5 j h hj)
         · have := HB3.out.size; omega
        clear ho5 hS5 hF5 hno5 HS3 HB3 HF2
        have HPH := Lib.hid HNM.out.other
        go_wp2_with fail
        refine (put_any gavH ⟨#[]⟩ _ HS5.out ⟨by decide, by decide, by decide⟩).mono ?_
        rintro e w6 ⟨rfl, ho, F6, es6, hS6, -, hno, hyes⟩
        have hpe : putE es5 gavH = 2 := by rw [HPH.out]; rw [if_pos (by have := HK.out; omega)]
        rw [hpe]
        obtain rfl := hno (by rw [hpe]; decide)
        have hln : es6.length = k := HNM.out.len
        have hmn : min ((k : Int) + 1) 1024 = (k : Int) := by have := HK.out; omega
        have hw : IntKind.i64.wrap ((k : Int) + 1) = (k : Int) + 1 := IntWalk.i64_in _ (by have := HK.out; omega)
        have HLN : Hid (Calls Tryz.prog 9 #[.pointer (some ⟨b, 0, none⟩)] w6 fun e w' => e = .returned (.int .i64 (k : Int)) ∧ Below w6.heap.size w6 w') := (len_any w6 hS6).mono fun e w' h => ⟨by rw [h.1, hln], h.2⟩
        have HB6 := Lib.hid (HBX.out.trans (ho.below HBX.out.size HFX.out))
        clear hno hyes hpe ho hS6 HPH hln
        go_wp2_with fail
        refine HLN.out.mono ?_
        rintro e w7 ⟨rfl, hb7⟩
        have HB7 := Lib.hid (HB6.out.trans (hb7.mono HB6.out.size))
        clear hb7 HLN HB6
        go_wp2_with fail
        refine (HLV.out _ HB7.out).mono ?_
        rintro e wz ⟨rfl, hbz⟩
        go_wp2
        go_ret
        exact ⟨rfl, HB7.out.trans (hbz.mono HB7.out.size)⟩
      · rw [hp]
        have HP := Lib.hid hp
        have HMG : Hid (∀ V, Calls Tryz.prog 8 #[.agg #[.string g.group, .string g.artifact, .string g.version]] V fun e w' => e = .returned (.bool (gavMay g)) ∧ Below V.heap.size V w') := fun V => refMayGav_any g V HSM.out
        rw [hm] at HMG
        clear hp hm
        go_wp2_with fail
        refine (HMG.out _).mono ?_
        rintro e w3 ⟨rfl, hb3⟩
        have HS3 := Lib.hid (HS2.out.below hb3)
        have HB3 := Lib.hid (HB2.out.trans (hb3.mono HB2.out.size))
        clear hb3 HS2 HX2 HB2 HMG x0 x1 x2 xl
        obtain rfl := HNO.out (by rw [HP.out]; decide)
        have HPL := Lib.hid (HNM.out.twice (by have := HK.out; omega))
        have z1 : ((k : Int) == 0) = false := by rw [beq_eq_false_iff_ne]; have := HK.out; omega
        have z1' : (k == 0) = false := by rw [beq_eq_false_iff_ne]; have := HK.out; omega
        have z2 : ((k : Int) = 0) = False := eq_false (by have := HK.out; omega)
        go_wp2_with fail
        refine (put_any gavL ⟨#[]⟩ w3 HS3.out ⟨by decide, by decide, by decide⟩).mono ?_
        rintro e w5 ⟨rfl, ho5, F5, es5, hS5, hF5, hno5, -⟩
        rw [HPL.out]
        obtain rfl := hno5 (by rw [HPL.out]; decide)
        have HS5 := Lib.hid hS5
        have HBX := Lib.hid (HB3.out.trans (ho5.below HB3.out.size HF2.out))
        have HFX : Hid (∀ j, F5 j → w.heap.size ≤ j) := fun j hj => by
         by_cases h : j < w3.heap.size
         · exact HF2.out j (hF5 j h hj)
         · have := HB3.out.size; omega
        clear ho5 hS5 hF5 hno5 HS3 HB3 HF2
        have HPH := Lib.hid HNM.out.other
        go_wp2_with fail
        refine (put_any gavH ⟨#[]⟩ _ HS5.out ⟨by decide, by decide, by decide⟩).mono ?_
        rintro e w6 ⟨rfl, ho, F6, es6, hS6, -, hno, hyes⟩
        have hpe : putE es5 gavH = 2 := by rw [HPH.out]; rw [if_pos (by have := HK.out; omega)]
        rw [hpe]
        obtain rfl := hno (by rw [hpe]; decide)
        have hln : es6.length = k := HNM.out.len
        have hmn : min ((k : Int) + 1) 1024 = (k : Int) := by have := HK.out; omega
        have hw : IntKind.i64.wrap ((k : Int) + 1) = (k : Int) + 1 := IntWalk.i64_in _ (by have := HK.out; omega)
        have HLN : Hid (Calls Tryz.prog 9 #[.pointer (some ⟨b, 0, none⟩)] w6 fun e w' => e = .returned (.int .i64 (k : Int)) ∧ Below w6.heap.size w6 w') := (len_any w6 hS6).mono fun e w' h => ⟨by rw [h.1, hln], h.2⟩
        have HB6 := Lib.hid (HBX.out.trans (ho.below HBX.out.size HFX.out))
        clear hno hyes hpe ho hS6 HPH hln
        go_wp2_with fail
        refine HLN.out.mono ?_
        rintro e w7 ⟨rfl, hb7⟩
        have HB7 := Lib.hid (HB6.out.trans (hb7.mono HB6.out.size))
        clear hb7 HLN HB6
        go_wp2_with fail
        refine (HLV.out _ HB7.out).mono ?_
        rintro e wz ⟨rfl, hbz⟩
        go_wp2
        go_ret
        exact ⟨rfl, HB7.out.trans (hbz.mono HB7.out.size)⟩
      · rw [hp]
        have HP := Lib.hid hp
        have HMG : Hid (∀ V, Calls Tryz.prog 8 #[.agg #[.string g.group, .string g.artifact, .string g.version]] V fun e w' => e = .returned (.bool (gavMay g)) ∧ Below V.heap.size V w') := fun V => refMayGav_any g V HSM.out
        rw [hm] at HMG
        clear hp hm
        go_wp2_with fail
        refine (HMG.out _).mono ?_
        rintro e w3 ⟨rfl, hb3⟩
        have HS3 := Lib.hid (HS2.out.below hb3)
        have HB3 := Lib.hid (HB2.out.trans (hb3.mono HB2.out.size))
        clear hb3 HS2 HX2 HB2 HMG x0 x1 x2 xl
        obtain rfl := HNO.out (by rw [HP.out]; decide)
        have HPL := Lib.hid (HNM.out.twice (by have := HK.out; omega))
        have z1 : ((k : Int) == 0) = false := by rw [beq_eq_false_iff_ne]; have := HK.out; omega
        have z1' : (k == 0) = false := by rw [beq_eq_false_iff_ne]; have := HK.out; omega
        have z2 : ((k : Int) = 0) = False := eq_false (by have := HK.out; omega)
        go_wp2_with fail
        refine (put_any gavL ⟨#[]⟩ w3 HS3.out ⟨by decide, by decide, by decide⟩).mono ?_
        rintro e w5 ⟨rfl, ho5, F5, es5, hS5, hF5, hno5, -⟩
        rw [HPL.out]
        obtain rfl := hno5 (by rw [HPL.out]; decide)
        have HS5 := Lib.hid hS5
        have HBX := Lib.hid (HB3.out.trans (ho5.below HB3.out.size HF2.out))
        have HFX : Hid (∀ j, F5 j → w.heap.size ≤ j) := fun j hj => by
         by_cases h : j < w3.heap.size
         · exact HF2.out j (hF5 j h hj)
         · have := HB3.out.size; omega
        clear ho5 hS5 hF5 hno5 HS3 HB3 HF2
        have HPH := Lib.hid HNM.out.other
        go_wp2_with fail
        refine (put_any gavH ⟨#[]⟩ _ HS5.out ⟨by decide, by decide, by decide⟩).mono ?_
        rintro e w6 ⟨rfl, ho, F6, es6, hS6, -, hno, hyes⟩
        have hpe : putE es5 gavH = 2 := by rw [HPH.out]; rw [if_pos (by have := HK.out; omega)]
        rw [hpe]
        obtain rfl := hno (by rw [hpe]; decide)
        have hln : es6.length = k := HNM.out.len
        have hmn : min ((k : Int) + 1) 1024 = (k : Int) := by have := HK.out; omega
        have hw : IntKind.i64.wrap ((k : Int) + 1) = (k : Int) + 1 := IntWalk.i64_in _ (by have := HK.out; omega)
        have HLN : Hid (Calls Tryz.prog 9 #[.pointer (some ⟨b, 0, none⟩)] w6 fun e w' => e = .returned (.int .i64 (k : Int)) ∧ Below w6.heap.size w6 w') := (len_any w6 hS6).mono fun e w' h => ⟨by rw [h.1, hln], h.2⟩
        have HB6 := Lib.hid (HBX.out.trans (ho.below HBX.out.size HFX.out))
        clear hno hyes hpe ho hS6 HPH hln
        go_wp2_with fail
        refine HLN.out.mono ?_
        rintro e w7 ⟨rfl, hb7⟩
        have HB7 := Lib.hid (HB6.out.trans (hb7.mono HB6.out.size))
        clear hb7 HLN HB6
        go_wp2_with fail
        refine (HLV.out _ HB7.out).mono ?_
        rintro e wz ⟨rfl, hbz⟩
        go_wp2
        go_ret
        exact ⟨rfl, HB7.out.trans (hbz.mono HB7.out.size)⟩
      · rw [hp]
        have HP := Lib.hid hp
        have HMG : Hid (∀ V, Calls Tryz.prog 8 #[.agg #[.string g.group, .string g.artifact, .string g.version]] V fun e w' => e = .returned (.bool (gavMay g)) ∧ Below V.heap.size V w') := fun V => refMayGav_any g V HSM.out
        rw [hm] at HMG
        clear hp hm
        go_wp2_with fail
        refine (HMG.out _).mono ?_
        rintro e w3 ⟨rfl, hb3⟩
        have HS3 := Lib.hid (HS2.out.below hb3)
        have HB3 := Lib.hid (HB2.out.trans (hb3.mono HB2.out.size))
        clear hb3 HS2 HX2 HB2 HMG x0 x1 x2 xl
        exact absurd hl (by rw [HNM.out.len]; have := HK.out; omega)
    · have d1 : ((k : Int) == 1024) = false := by rw [beq_eq_false_iff_ne]; omega
      have d1' : (k == 1024) = false := by rw [beq_eq_false_iff_ne]; omega
      have d2 : ((k : Int) = 1024) = False := eq_false (by omega)
      obtain ⟨x0, x1, x2⟩ := bxc3 HX.out
      have xl := HX.out.lt
      by_cases hg0 : 400 < g.group.size
      · have c0 : decide ((400 : Int) < (g.group.size : Int)) = true := decide_eq_true (by omega)
        have c0' : decide (400 < g.group.size) = true := decide_eq_true hg0
        clear hg0
        go_wp2_with fail
        refine (HLV.out _ HB.out).mono ?_
        rintro e wz ⟨rfl, hbz⟩
        go_wp2
        go_ret
        exact ⟨rfl, HB.out.trans (hbz.mono HB.out.size)⟩
      have c0 : decide ((400 : Int) < (g.group.size : Int)) = false := decide_eq_false (by omega)
      have c0' : decide (400 < g.group.size) = false := decide_eq_false hg0
      by_cases hg1 : 400 < g.artifact.size
      · have c1 : decide ((400 : Int) < (g.artifact.size : Int)) = true := decide_eq_true (by omega)
        have c1' : decide (400 < g.artifact.size) = true := decide_eq_true hg1
        clear hg1
        go_wp2_with fail
        refine (HLV.out _ HB.out).mono ?_
        rintro e wz ⟨rfl, hbz⟩
        go_wp2
        go_ret
        exact ⟨rfl, HB.out.trans (hbz.mono HB.out.size)⟩
      have c1 : decide ((400 : Int) < (g.artifact.size : Int)) = false := decide_eq_false (by omega)
      have c1' : decide (400 < g.artifact.size) = false := decide_eq_false hg1
      by_cases hg2 : 400 < g.version.size
      · have c2 : decide ((400 : Int) < (g.version.size : Int)) = true := decide_eq_true (by omega)
        have c2' : decide (400 < g.version.size) = true := decide_eq_true hg2
        clear hg2
        go_wp2_with fail
        refine (HLV.out _ HB.out).mono ?_
        rintro e wz ⟨rfl, hbz⟩
        go_wp2
        go_ret
        exact ⟨rfl, HB.out.trans (hbz.mono HB.out.size)⟩
      have c2 : decide ((400 : Int) < (g.version.size : Int)) = false := decide_eq_false (by omega)
      have c2' : decide (400 < g.version.size) = false := decide_eq_false hg2
      have HSM : Hid (gavSm g) := ⟨by omega, by omega, by omega⟩
      clear hg0 hg1 hg2
      go_wp2_with fail
      refine (put_any g ⟨#[120]⟩ wr HS.out HSM.out).mono ?_
      rintro e w2 ⟨rfl, ho, F2, es2, hS2, hF2, hno, hyes⟩
      have HS2 := Lib.hid hS2
      have HX2 := Lib.hid (HX.out.only ho (fun h => by have := HFk.out _ h; omega))
      have HB2 := Lib.hid (HB.out.trans (ho.below HB.out.size HF0.out))
      have HF2 : Hid (∀ j, F2 j → w.heap.size ≤ j) := fun j hj => by
       by_cases h : j < wr.heap.size
       · exact HF0.out j (hF2 j h hj)
       · have := HB.out.size; omega
      have HNO := Lib.hid hno
      have HYES := Lib.hid hyes
      clear ho hS2 hF2 hno hyes x0 x1 x2 xl HS HX HB
      obtain ⟨x0, x1, x2⟩ := bxc3 HX2.out
      have xl := HX2.out.lt
      rcases putE_ways es g with ⟨hm, hp⟩ | ⟨hm, hp⟩ | ⟨hm, hp⟩ | ⟨hm, hp, hl⟩
      · rw [hp]
        have HP := Lib.hid hp
        have HMG : Hid (∀ V, Calls Tryz.prog 8 #[.agg #[.string g.group, .string g.artifact, .string g.version]] V fun e w' => e = .returned (.bool (gavMay g)) ∧ Below V.heap.size V w') := fun V => refMayGav_any g V HSM.out
        rw [hm] at HMG
        clear hp hm
        go_wp2_with fail
        refine (HMG.out _).mono ?_
        rintro e w3 ⟨rfl, hb3⟩
        have HS3 := Lib.hid (HS2.out.below hb3)
        have HB3 := Lib.hid (HB2.out.trans (hb3.mono HB2.out.size))
        clear hb3 HS2 HX2 HB2 HMG x0 x1 x2 xl
        obtain rfl := HNO.out (by rw [HP.out]; decide)
        by_cases hz : k = 0
        · have z1 : ((k : Int) == 0) = true := by rw [beq_iff_eq]; omega
          have z1' : (k == 0) = true := by rw [beq_iff_eq]; omega
          have HZ := Lib.hid hz
          clear hz
          have HBX := HB3
          have HFX := HF2
          have HPH := Lib.hid HNM.out.other
          go_wp2_with fail
          refine (put_any gavH ⟨#[]⟩ _ HS3.out ⟨by decide, by decide, by decide⟩).mono ?_
          rintro e w6 ⟨rfl, ho, F6, es6, hS6, -, hno, hyes⟩
          have hpe : putE es2 gavH = 0 := by rw [HPH.out]; rw [if_neg (by omega)]
          rw [hpe]
          obtain ⟨eb, rfl⟩ := hyes hpe
          have hln : (es2 ++ [(freshE gavH ⟨#[]⟩, eb)]).length = k + 1 := by rw [List.length_append, HNM.out.len]; rfl
          have hmn : min ((k : Int) + 1) 1024 = (k : Int) + 1 := by omega
          have hw : IntKind.i64.wrap ((k : Int) + 1) = (k : Int) + 1 := IntWalk.i64_in _ (by omega)
          have HLN : Hid (Calls Tryz.prog 9 #[.pointer (some ⟨b, 0, none⟩)] w6 fun e w' => e = .returned (.int .i64 ((k : Int) + 1)) ∧ Below w6.heap.size w6 w') := (len_any w6 hS6).mono fun e w' h => ⟨by rw [h.1, hln]; simp, h.2⟩
          have HB6 := Lib.hid (HBX.out.trans (ho.below HBX.out.size HFX.out))
          clear hno hyes hpe ho hS6 HPH hln
          go_wp2_with fail
          refine HLN.out.mono ?_
          rintro e w7 ⟨rfl, hb7⟩
          have HB7 := Lib.hid (HB6.out.trans (hb7.mono HB6.out.size))
          clear hb7 HLN HB6
          go_wp2_with fail
          refine (HLV.out _ HB7.out).mono ?_
          rintro e wz ⟨rfl, hbz⟩
          go_wp2
          go_ret
          exact ⟨rfl, HB7.out.trans (hbz.mono HB7.out.size)⟩
        have z1 : ((k : Int) == 0) = false := by rw [beq_eq_false_iff_ne]; omega
        have z1' : (k == 0) = false := by rw [beq_eq_false_iff_ne]; omega
        have z2 : ((k : Int) = 0) = False := eq_false (by omega)
        have HPL := Lib.hid (HNM.out.twice (by omega))
        go_wp2_with fail
        refine (put_any gavL ⟨#[]⟩ w3 HS3.out ⟨by decide, by decide, by decide⟩).mono ?_
        rintro e w5 ⟨rfl, ho5, F5, es5, hS5, hF5, hno5, -⟩
        rw [HPL.out]
        obtain rfl := hno5 (by rw [HPL.out]; decide)
        have HS5 := Lib.hid hS5
        have HBX := Lib.hid (HB3.out.trans (ho5.below HB3.out.size HF2.out))
        have HFX : Hid (∀ j, F5 j → w.heap.size ≤ j) := fun j hj => by
         by_cases h : j < w3.heap.size
         · exact HF2.out j (hF5 j h hj)
         · have := HB3.out.size; omega
        clear ho5 hS5 hF5 hno5 HS3 HB3 HF2
        have HPH := Lib.hid HNM.out.other
        go_wp2_with fail
        refine (put_any gavH ⟨#[]⟩ _ HS5.out ⟨by decide, by decide, by decide⟩).mono ?_
        rintro e w6 ⟨rfl, ho, F6, es6, hS6, -, hno, hyes⟩
        have hpe : putE es5 gavH = 0 := by rw [HPH.out]; rw [if_neg (by omega)]
        rw [hpe]
        obtain ⟨eb, rfl⟩ := hyes hpe
        have hln : (es5 ++ [(freshE gavH ⟨#[]⟩, eb)]).length = k + 1 := by rw [List.length_append, HNM.out.len]; rfl
        have hmn : min ((k : Int) + 1) 1024 = (k : Int) + 1 := by omega
        have hw : IntKind.i64.wrap ((k : Int) + 1) = (k : Int) + 1 := IntWalk.i64_in _ (by omega)
        have HLN : Hid (Calls Tryz.prog 9 #[.pointer (some ⟨b, 0, none⟩)] w6 fun e w' => e = .returned (.int .i64 ((k : Int) + 1)) ∧ Below w6.heap.size w6 w') := (len_any w6 hS6).mono fun e w' h => ⟨by rw [h.1, hln]; simp, h.2⟩
        have HB6 := Lib.hid (HBX.out.trans (ho.below HBX.out.size HFX.out))
        clear hno hyes hpe ho hS6 HPH hln
        go_wp2_with fail
        refine HLN.out.mono ?_
        rintro e w7 ⟨rfl, hb7⟩
        have HB7 := Lib.hid (HB6.out.trans (hb7.mono HB6.out.size))
        clear hb7 HLN HB6
        go_wp2_with fail
        refine (HLV.out _ HB7.out).mono ?_
        rintro e wz ⟨rfl, hbz⟩
        go_wp2
        go_ret
        exact ⟨rfl, HB7.out.trans (hbz.mono HB7.out.size)⟩
      · rw [hp]
        have HP := Lib.hid hp
        have HMG : Hid (∀ V, Calls Tryz.prog 8 #[.agg #[.string g.group, .string g.artifact, .string g.version]] V fun e w' => e = .returned (.bool (gavMay g)) ∧ Below V.heap.size V w') := fun V => refMayGav_any g V HSM.out
        rw [hm] at HMG
        clear hp hm
        go_wp2_with fail
        refine (HMG.out _).mono ?_
        rintro e w3 ⟨rfl, hb3⟩
        have HS3 := Lib.hid (HS2.out.below hb3)
        have HB3 := Lib.hid (HB2.out.trans (hb3.mono HB2.out.size))
        clear hb3 HS2 HX2 HB2 HMG x0 x1 x2 xl
        obtain rfl := HNO.out (by rw [HP.out]; decide)
        by_cases hz : k = 0
        · have z1 : ((k : Int) == 0) = true := by rw [beq_iff_eq]; omega
          have z1' : (k == 0) = true := by rw [beq_iff_eq]; omega
          have HZ := Lib.hid hz
          clear hz
          have HBX := HB3
          have HFX := HF2
          have HPH := Lib.hid HNM.out.other
          go_wp2_with fail
          refine (put_any gavH ⟨#[]⟩ _ HS3.out ⟨by decide, by decide, by decide⟩).mono ?_
          rintro e w6 ⟨rfl, ho, F6, es6, hS6, -, hno, hyes⟩
          have hpe : putE es2 gavH = 0 := by rw [HPH.out]; rw [if_neg (by omega)]
          rw [hpe]
          obtain ⟨eb, rfl⟩ := hyes hpe
          have hln : (es2 ++ [(freshE gavH ⟨#[]⟩, eb)]).length = k + 1 := by rw [List.length_append, HNM.out.len]; rfl
          have hmn : min ((k : Int) + 1) 1024 = (k : Int) + 1 := by omega
          have hw : IntKind.i64.wrap ((k : Int) + 1) = (k : Int) + 1 := IntWalk.i64_in _ (by omega)
          have HLN : Hid (Calls Tryz.prog 9 #[.pointer (some ⟨b, 0, none⟩)] w6 fun e w' => e = .returned (.int .i64 ((k : Int) + 1)) ∧ Below w6.heap.size w6 w') := (len_any w6 hS6).mono fun e w' h => ⟨by rw [h.1, hln]; simp, h.2⟩
          have HB6 := Lib.hid (HBX.out.trans (ho.below HBX.out.size HFX.out))
          clear hno hyes hpe ho hS6 HPH hln
          go_wp2_with fail
          refine HLN.out.mono ?_
          rintro e w7 ⟨rfl, hb7⟩
          have HB7 := Lib.hid (HB6.out.trans (hb7.mono HB6.out.size))
          clear hb7 HLN HB6
          go_wp2_with fail
          refine (HLV.out _ HB7.out).mono ?_
          rintro e wz ⟨rfl, hbz⟩
          go_wp2
          go_ret
          exact ⟨rfl, HB7.out.trans (hbz.mono HB7.out.size)⟩
        have z1 : ((k : Int) == 0) = false := by rw [beq_eq_false_iff_ne]; omega
        have z1' : (k == 0) = false := by rw [beq_eq_false_iff_ne]; omega
        have z2 : ((k : Int) = 0) = False := eq_false (by omega)
        have HPL := Lib.hid (HNM.out.twice (by omega))
        go_wp2_with fail
        refine (put_any gavL ⟨#[]⟩ w3 HS3.out ⟨by decide, by decide, by decide⟩).mono ?_
        rintro e w5 ⟨rfl, ho5, F5, es5, hS5, hF5, hno5, -⟩
        rw [HPL.out]
        obtain rfl := hno5 (by rw [HPL.out]; decide)
        have HS5 := Lib.hid hS5
        have HBX := Lib.hid (HB3.out.trans (ho5.below HB3.out.size HF2.out))
        have HFX : Hid (∀ j, F5 j → w.heap.size ≤ j) := fun j hj => by
         by_cases h : j < w3.heap.size
         · exact HF2.out j (hF5 j h hj)
         · have := HB3.out.size; omega
        clear ho5 hS5 hF5 hno5 HS3 HB3 HF2
        have HPH := Lib.hid HNM.out.other
        go_wp2_with fail
        refine (put_any gavH ⟨#[]⟩ _ HS5.out ⟨by decide, by decide, by decide⟩).mono ?_
        rintro e w6 ⟨rfl, ho, F6, es6, hS6, -, hno, hyes⟩
        have hpe : putE es5 gavH = 0 := by rw [HPH.out]; rw [if_neg (by omega)]
        rw [hpe]
        obtain ⟨eb, rfl⟩ := hyes hpe
        have hln : (es5 ++ [(freshE gavH ⟨#[]⟩, eb)]).length = k + 1 := by rw [List.length_append, HNM.out.len]; rfl
        have hmn : min ((k : Int) + 1) 1024 = (k : Int) + 1 := by omega
        have hw : IntKind.i64.wrap ((k : Int) + 1) = (k : Int) + 1 := IntWalk.i64_in _ (by omega)
        have HLN : Hid (Calls Tryz.prog 9 #[.pointer (some ⟨b, 0, none⟩)] w6 fun e w' => e = .returned (.int .i64 ((k : Int) + 1)) ∧ Below w6.heap.size w6 w') := (len_any w6 hS6).mono fun e w' h => ⟨by rw [h.1, hln]; simp, h.2⟩
        have HB6 := Lib.hid (HBX.out.trans (ho.below HBX.out.size HFX.out))
        clear hno hyes hpe ho hS6 HPH hln
        go_wp2_with fail
        refine HLN.out.mono ?_
        rintro e w7 ⟨rfl, hb7⟩
        have HB7 := Lib.hid (HB6.out.trans (hb7.mono HB6.out.size))
        clear hb7 HLN HB6
        go_wp2_with fail
        refine (HLV.out _ HB7.out).mono ?_
        rintro e wz ⟨rfl, hbz⟩
        go_wp2
        go_ret
        exact ⟨rfl, HB7.out.trans (hbz.mono HB7.out.size)⟩
      · rw [hp]
        have HP := Lib.hid hp
        have HMG : Hid (∀ V, Calls Tryz.prog 8 #[.agg #[.string g.group, .string g.artifact, .string g.version]] V fun e w' => e = .returned (.bool (gavMay g)) ∧ Below V.heap.size V w') := fun V => refMayGav_any g V HSM.out
        rw [hm] at HMG
        clear hp hm
        go_wp2_with fail
        refine (HMG.out _).mono ?_
        rintro e w3 ⟨rfl, hb3⟩
        have HS3 := Lib.hid (HS2.out.below hb3)
        have HB3 := Lib.hid (HB2.out.trans (hb3.mono HB2.out.size))
        clear hb3 HS2 HX2 HB2 HMG x0 x1 x2 xl
        obtain rfl := HNO.out (by rw [HP.out]; decide)
        by_cases hz : k = 0
        · have z1 : ((k : Int) == 0) = true := by rw [beq_iff_eq]; omega
          have z1' : (k == 0) = true := by rw [beq_iff_eq]; omega
          have HZ := Lib.hid hz
          clear hz
          have HBX := HB3
          have HFX := HF2
          have HPH := Lib.hid HNM.out.other
          go_wp2_with fail
          refine (put_any gavH ⟨#[]⟩ _ HS3.out ⟨by decide, by decide, by decide⟩).mono ?_
          rintro e w6 ⟨rfl, ho, F6, es6, hS6, -, hno, hyes⟩
          have hpe : putE es2 gavH = 0 := by rw [HPH.out]; rw [if_neg (by omega)]
          rw [hpe]
          obtain ⟨eb, rfl⟩ := hyes hpe
          have hln : (es2 ++ [(freshE gavH ⟨#[]⟩, eb)]).length = k + 1 := by rw [List.length_append, HNM.out.len]; rfl
          have hmn : min ((k : Int) + 1) 1024 = (k : Int) + 1 := by omega
          have hw : IntKind.i64.wrap ((k : Int) + 1) = (k : Int) + 1 := IntWalk.i64_in _ (by omega)
          have HLN : Hid (Calls Tryz.prog 9 #[.pointer (some ⟨b, 0, none⟩)] w6 fun e w' => e = .returned (.int .i64 ((k : Int) + 1)) ∧ Below w6.heap.size w6 w') := (len_any w6 hS6).mono fun e w' h => ⟨by rw [h.1, hln]; simp, h.2⟩
          have HB6 := Lib.hid (HBX.out.trans (ho.below HBX.out.size HFX.out))
          clear hno hyes hpe ho hS6 HPH hln
          go_wp2_with fail
          refine HLN.out.mono ?_
          rintro e w7 ⟨rfl, hb7⟩
          have HB7 := Lib.hid (HB6.out.trans (hb7.mono HB6.out.size))
          clear hb7 HLN HB6
          go_wp2_with fail
          refine (HLV.out _ HB7.out).mono ?_
          rintro e wz ⟨rfl, hbz⟩
          go_wp2
          go_ret
          exact ⟨rfl, HB7.out.trans (hbz.mono HB7.out.size)⟩
        have z1 : ((k : Int) == 0) = false := by rw [beq_eq_false_iff_ne]; omega
        have z1' : (k == 0) = false := by rw [beq_eq_false_iff_ne]; omega
        have z2 : ((k : Int) = 0) = False := eq_false (by omega)
        have HPL := Lib.hid (HNM.out.twice (by omega))
        go_wp2_with fail
        refine (put_any gavL ⟨#[]⟩ w3 HS3.out ⟨by decide, by decide, by decide⟩).mono ?_
        rintro e w5 ⟨rfl, ho5, F5, es5, hS5, hF5, hno5, -⟩
        rw [HPL.out]
        obtain rfl := hno5 (by rw [HPL.out]; decide)
        have HS5 := Lib.hid hS5
        have HBX := Lib.hid (HB3.out.trans (ho5.below HB3.out.size HF2.out))
        have HFX : Hid (∀ j, F5 j → w.heap.size ≤ j) := fun j hj => by
         by_cases h : j < w3.heap.size
         · exact HF2.out j (hF5 j h hj)
         · have := HB3.out.size; omega
        clear ho5 hS5 hF5 hno5 HS3 HB3 HF2
        have HPH := Lib.hid HNM.out.other
        go_wp2_with fail
        refine (put_any gavH ⟨#[]⟩ _ HS5.out ⟨by decide, by decide, by decide⟩).mono ?_
        rintro e w6 ⟨rfl, ho, F6, es6, hS6, -, hno, hyes⟩
        have hpe : putE es5 gavH = 0 := by rw [HPH.out]; rw [if_neg (by omega)]
        rw [hpe]
        obtain ⟨eb, rfl⟩ := hyes hpe
        have hln : (es5 ++ [(freshE gavH ⟨#[]⟩, eb)]).length = k + 1 := by rw [List.length_append, HNM.out.len]; rfl
        have hmn : min ((k : Int) + 1) 1024 = (k : Int) + 1 := by omega
        have hw : IntKind.i64.wrap ((k : Int) + 1) = (k : Int) + 1 := IntWalk.i64_in _ (by omega)
        have HLN : Hid (Calls Tryz.prog 9 #[.pointer (some ⟨b, 0, none⟩)] w6 fun e w' => e = .returned (.int .i64 ((k : Int) + 1)) ∧ Below w6.heap.size w6 w') := (len_any w6 hS6).mono fun e w' h => ⟨by rw [h.1, hln]; simp, h.2⟩
        have HB6 := Lib.hid (HBX.out.trans (ho.below HBX.out.size HFX.out))
        clear hno hyes hpe ho hS6 HPH hln
        go_wp2_with fail
        refine HLN.out.mono ?_
        rintro e w7 ⟨rfl, hb7⟩
        have HB7 := Lib.hid (HB6.out.trans (hb7.mono HB6.out.size))
        clear hb7 HLN HB6
        go_wp2_with fail
        refine (HLV.out _ HB7.out).mono ?_
        rintro e wz ⟨rfl, hbz⟩
        go_wp2
        go_ret
        exact ⟨rfl, HB7.out.trans (hbz.mono HB7.out.size)⟩
      · rw [hp]
        have HP := Lib.hid hp
        have HMG : Hid (∀ V, Calls Tryz.prog 8 #[.agg #[.string g.group, .string g.artifact, .string g.version]] V fun e w' => e = .returned (.bool (gavMay g)) ∧ Below V.heap.size V w') := fun V => refMayGav_any g V HSM.out
        rw [hm] at HMG
        clear hp hm
        go_wp2_with fail
        refine (HMG.out _).mono ?_
        rintro e w3 ⟨rfl, hb3⟩
        have HS3 := Lib.hid (HS2.out.below hb3)
        have HB3 := Lib.hid (HB2.out.trans (hb3.mono HB2.out.size))
        clear hb3 HS2 HX2 HB2 HMG x0 x1 x2 xl
        obtain ⟨eb, rfl⟩ := HYES.out HP.out
        clear hl
        have d6 : decide ((k : Int) < 1024) = true := decide_eq_true (by omega)
        have d6' : decide (k < 1024) = true := decide_eq_true hk
        have hw : IntKind.i64.wrap ((k : Int) + 1) = (k : Int) + 1 := IntWalk.i64_in _ (by omega)
        have HLN : Hid (Calls Tryz.prog 9 #[.pointer (some ⟨b, 0, none⟩)] w3 fun e w' => e = .returned (.int .i64 ((k : Int) + 1)) ∧ Below w3.heap.size w3 w') := (len_any w3 HS3.out).mono fun e w' h => ⟨by rw [h.1, List.length_append, HNM.out.len]; simp, h.2⟩
        go_wp2_with fail
        refine HLN.out.mono ?_
        rintro e w4 ⟨rfl, hb4⟩
        have HB4 := Lib.hid (HB3.out.trans (hb4.mono HB3.out.size))
        clear hb4 HLN HS3 HB3
        go_wp2_with fail
        refine (HLV.out _ HB4.out).mono ?_
        rintro e wz ⟨rfl, hbz⟩
        go_wp2
        go_ret
        exact ⟨rfl, HB4.out.trans (hbz.mono HB4.out.size)⟩

end Go.Proofs.YtphaeegbmfpcgaaGreat

/- From a walk to a row: a law that returns true and turns nothing that was there. -/
namespace Go.Proofs.YtphaeegbmfpcgaaGreat
open Go Go.ChangeShapes Go.WideShapes Go.ChangeAt Go.RowKit

theorem own : ownKnob Tryz.prog.godebug = none := by kernel_rfl
theorem laidOut : laidOutB Tryz.prog = true := by kernel_rfl
theorem trodAll_below {H : Type} {enc : TypeId × Value → H} {W W' : World} (hb : Below W.heap.size W W') : ∀ {ts : List TypeId} {vs : List Value} {ds : List (DataW H)} {ps : List MemPlace},
    (∀ t ∈ ts, Tryz.prog.readableRec t = true ∧ t < Tryz.prog.types.size) → DataW.TrodAll enc Tryz.prog W 0 (fun _ => true) true ts vs ds ps → (∀ x ∈ ps, x.block < W.heap.size) →
    DataW.TrodAll enc Tryz.prog W' 0 (fun b => decide (b < W.heap.size)) true ts vs ds ps
 | [], [], [], _, _, h, _ => h
 | t :: ts, v :: vs, d :: ds, ps, hr, h, hlt => by
  obtain ⟨p, q, h1, h2, rfl⟩ := h
  exact ⟨p, q, Below.trod laidOut (hr t (by simp)).1 (hr t (by simp)).2 h1 hb (fun x hx => hlt x (by simp [hx])),
   trodAll_below hb (fun u hu => hr u (by simp [hu])) h2 (fun x hx => hlt x (by simp [hx])), rfl⟩
 | [], [], _ :: _, _, _, h, _ => h.elim
 | [], _ :: _, _, _, _, h, _ => h.elim
 | _ :: _, [], _, _, _, h, _ => h.elim
 | _ :: _, _ :: _, [], _, _, h, _ => h.elim

end Go.Proofs.YtphaeegbmfpcgaaGreat

/- From the readings of the arguments to what the walks ask: a project that can be read is one in memory. -/
namespace Go.Proofs.YtphaeegbmfpcgaaGreat
open Go Go.RowKit

variable {H : Type} {enc : TypeId × Value → H} {W : World} {sp : Nat → Bool} {held : Bool}
/-- Whatever reads as type t are the cells of some a that is all right. -/
def Opens {α : Type} (enc : TypeId × Value → H) (W : World) (sp : Nat → Bool) (held : Bool) (t : TypeId) (C : α → List Value) (Ok : α → Prop) : Prop :=
 ∀ fuel cs x, DataW.trod enc Tryz.prog W 0 sp held fuel t cs = some x → ∃ a, cs = C a ∧ Ok a
theorem opens_string : Opens enc W sp held 9 strC (fun s => s.size ≤ maxLen) := fun _ _ _ h => by
 obtain ⟨s, h1, -, h2⟩ := DataW.trod_string Tryz.underlying9 h
 exact ⟨s, h1, h2⟩
theorem cellsOf_str : Tryz.prog.cellsOf 9 = 1 := by kernel_rfl
theorem cellsOf_gav : Tryz.prog.cellsOf 23 = 3 := by kernel_rfl
theorem len3 {l : List Value} (h : l.length = 3) : ∃ c0 c1 c2, l = [c0, c1, c2] := by
 match l, h with
 | [c0, c1, c2], _ => exact ⟨c0, c1, c2, rfl⟩
theorem opens_gav : Opens enc W sp held 23 gavC (fun _ => True) := fun fuel cs x h => by
 obtain ⟨xs, n, -, -, hl, hxs, hf⟩ := DataW.trod_struct Tryz.underlying23 h
 rw [cellsOf_gav] at hl
 obtain ⟨c0, c1, c2, rfl⟩ := len3 hl
 have f0 : DataW.trod enc Tryz.prog W 0 sp held n 9 (([c0, c1, c2].drop 0).take (Tryz.prog.cellsOf 9)) = xs[0]? := hf 0 _ rfl
 rw [cellsOf_str, List.getElem?_eq_getElem (by rw [hxs]; decide)] at f0
 have f1 : DataW.trod enc Tryz.prog W 0 sp held n 9 (([c0, c1, c2].drop 1).take (Tryz.prog.cellsOf 9)) = xs[1]? := hf 1 _ rfl
 rw [cellsOf_str, List.getElem?_eq_getElem (by rw [hxs]; decide)] at f1
 have f2 : DataW.trod enc Tryz.prog W 0 sp held n 9 (([c0, c1, c2].drop 2).take (Tryz.prog.cellsOf 9)) = xs[2]? := hf 2 _ rfl
 rw [cellsOf_str, List.getElem?_eq_getElem (by rw [hxs]; decide)] at f2
 obtain ⟨a0, h0, k0⟩ := opens_string _ _ _ f0
 obtain ⟨a1, h1, k1⟩ := opens_string _ _ _ f1
 obtain ⟨a2, h2, k2⟩ := opens_string _ _ _ f2
 clear hf f0 f1 f2
 cases h0
 cases h1
 cases h2
 exact ⟨⟨a0, a1, a2⟩, rfl, trivial⟩

end Go.Proofs.YtphaeegbmfpcgaaGreat

/- Whatever the number and the project's name, the law StoreFull returns true, and its arguments read behind the call as before; no conditions. -/
namespace Go.Proofs.YtphaeegbmfpcgaaGreat
open Go Go.ChangeShapes Go.WideShapes Go.ChangeAt Go.RowKit Go.ChangeMaps

theorem rt_int : Tryz.prog.readableRec 3 = true := by kernel_rfl
theorem lt_int : 3 < Tryz.prog.types.size := of_decide_eq_true (by kernel_rfl)
theorem rt_gav : Tryz.prog.readableRec 23 = true := by kernel_rfl
theorem lt_gav : 23 < Tryz.prog.types.size := of_decide_eq_true (by kernel_rfl)
set_option maxRecDepth 100000 in
theorem open_gavS {H : Type} {enc : TypeId × Value → H} {W : World} {base : Nat} {v : Value} {d : DataW H} {p : List MemPlace} (hval : Value.okWide Tryz.prog W .any base 23 v)
    (h : DataW.Trod enc Tryz.prog W 0 (fun _ => true) true 23 v d p) : ∃ q : Gav, v = .agg (gavC q).toArray := by
 obtain ⟨fuel, hf⟩ := h
 obtain ⟨q, hcs, -⟩ := opens_gav _ _ _ hf
 refine ⟨q, ?_⟩
 simp only [Value.okWide, Tryz.underlying23] at hval
 obtain ⟨cs, rfl, -⟩ := hval
 simp only [Value.cells] at hcs
 rw [← hcs]
set_option maxRecDepth 100000 in
theorem storeFull_lifted (os : Os) (started : os.Started) (H : Type) (enc : TypeId × Value → H) :
    ReturnsInHanded {} Tryz.checked os 3 .any (Rows.storeFullSpec.pre6 enc Tryz.prog Tryz.f3 Rows.storeFullRow.domain false) (Rows.storeFullSpec.post enc Tryz.prog Tryz.f3 false true false false) := by
 refine returnsInHanded_of_change_shaped (C := Tryz.checked) own started (by kernel_rfl) Tryz.func3
  (ChangeSpec.witness6 (enc := enc) (C := Tryz.checked) false ⟨#[], #[.int .i64 0, .agg #[.string .empty, .string .empty, .string .empty]], []⟩ 8 (by kernel_rfl) (by kernel_rfl) (by kernel_rfl) (by kernel_rfl)) ?_
 intro W base args ds gs before hval0 hW hcnd _ hsh _
 have hval : ∀ (j : Nat) t v, Tryz.f3.params[j]? = some t → args[j]? = some v → Value.okWide Tryz.prog W .any base t v := hval0
 have hW' := hW
 obtain ⟨p, q, hA0, hV, rfl, hfz, hnd⟩ := hW
 have hA : DataW.TrodAll enc Tryz.prog W 0 (fun _ => true) true Tryz.f3.params.toList args.toList ds p := hA0
 have hA' := hA
 rw [Tryz.params3] at hA hval
 obtain ⟨v0, v1, d0, d1, p0, p1, rfl, rfl, rfl, h0, h1⟩ := trodAll_two hA
 obtain ⟨rfl, rfl⟩ := trodVars_none hV
 obtain ⟨n0, rfl, rfl, -, wn0⟩ := open_int Tryz.underlying3 (hval 0 3 v0 rfl rfl) h0
 obtain ⟨g, rfl⟩ := open_gavS (hval 1 23 v1 rfl rfl) h1
 clear hA0 hval0
 obtain ⟨m, hm⟩ : ∃ m, W.cell? ⟨0, 0, none⟩ = some (.int .i64 m) := Tryz.laysM219.s1_3 W hsh
 have hlt : ∀ x ∈ p0 ++ p1, x.block < W.heap.size := fun x hx => by simpa using hW'.lt x (by simpa using hx)
 refine (storeFull_any n0 g m W hm).mono fun en W' ⟨he, hb⟩ => ?_
 subst he
 refine ⟨_, rfl, _, _, _, [], p0 ++ p1, [], hW', trodAll_mk1 (shut_bool Tryz.underlying4 _), trodAll_below hb ?_ hA' hlt, rfl, hb.frame _, fun h => by cases h⟩
 rw [Tryz.params3]
 intro t ht
 simp at ht
 rcases ht with rfl | rfl
 · exact ⟨rt_int, lt_int⟩
 · exact ⟨rt_gav, lt_gav⟩
theorem storeFull_holds : Rows.StoreFullSaid :=
 OpenClaim.holds_of_wide 3 Tryz.f3 rfl rfl rfl rfl rfl rfl rfl ⟨rfl, rfl, rfl, rfl, rfl⟩ rfl rfl rfl rfl rfl (by kernel_rfl) Tryz.func3 (by kernel_rfl)
  (of_decide_eq_true (by kernel_rfl)) (by unfold Func.isWrapper; rw [if_neg (of_decide_eq_false (by kernel_rfl))]; exact ⟨rfl, rfl⟩)
  (fun os started H enc _ => storeFull_lifted os started H enc)

#print axioms storeFull_holds

end Go.Proofs.YtphaeegbmfpcgaaGreat
