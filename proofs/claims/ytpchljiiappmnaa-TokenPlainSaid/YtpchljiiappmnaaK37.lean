/- The walk of the law TokenPlain; its condition stands in the theorem. -/
import Derived.Test.YtpchljiiappmnaaK31
import Derived.Test.YtpchljiiappmnaaK36
import Derived.StillTailTactics
namespace Go.Proofs.Ytpchljiiappmnaa
open Go Go.RowKit

/-- What the law's first text is read as. -/
theorem plain_text (s : S) (h : ∀ c ∈ s.data.toList, cText c = true) (h0 : s.size ≠ 0) (E : S) (hE : E = bs (esc false s.data.toList)) :
    allR ((⟨#[60, 97, 47, 62]⟩ : S) ++ E).data.toList = .ok [(⟨2, [97], [], []⟩, 60 :: 97 :: 47 :: 62 :: esc false s.data.toList), (⟨4, [], [], s.data.toList⟩, esc false s.data.toList)] [] := by
  subst hE
  rw [show (⟨#[60, 97, 47, 62]⟩ : S) = bs [60, 97, 47, 62] from rfl, bs_append, bs_data]
  exact plain_esc _ h (fun e => h0 (by rw [← size_data, e]; rfl))
theorem plain_none (s : S) (h0 : s.size = 0) (E : S) (hE : E = bs (esc false s.data.toList)) :
    allR ((⟨#[60, 97, 47, 62]⟩ : S) ++ E).data.toList = .ok [(⟨2, [97], [], []⟩, [60, 97, 47, 62])] [] := by
  have : s.data.toList = [] := List.eq_nil_of_length_eq_zero (by rw [size_data]; exact h0)
  subst hE
  rw [this, show (⟨#[60, 97, 47, 62]⟩ : S) = bs [60, 97, 47, 62] from rfl, bs_append, bs_data]
  exact plain_esc_nil
theorem data_text (s : S) (h : ∀ c ∈ s.data.toList, cText c = true) (hn : noEnd s.data.toList = true) (hl : s.data.toList.getLast? ≠ some 93) :
    allR ((⟨#[60, 33, 91, 67, 68, 65, 84, 65, 91]⟩ : S) ++ s ++ (⟨#[93, 93, 62]⟩ : S)).data.toList = .ok [(⟨4, [], [], s.data.toList⟩, sData ++ (s.data.toList ++ eData))] [] := by
  have e : (⟨#[60, 33, 91, 67, 68, 65, 84, 65, 91]⟩ : S) ++ s ++ (⟨#[93, 93, 62]⟩ : S) = bs (sData ++ (s.data.toList ++ eData)) := by
    rw [← data_bs s, show (⟨#[60, 33, 91, 67, 68, 65, 84, 65, 91]⟩ : S) = bs sData from rfl, show (⟨#[93, 93, 62]⟩ : S) = bs eData from rfl, bs_append, bs_append, bs_data, List.append_assoc]
  rw [e, bs_data]
  exact plain_cdata _ h hn hl

theorem pre3 (s : S) (k : Nat) : ((s.extract k (k + 3)).toList == [93, 93, 62]) = eData.isPrefixOf (s.data.toList.drop k) := by
  rw [str_lit, Lib.extract_data, Nat.add_sub_cancel_left, Bool.eq_iff_iff, List.isPrefixOf_iff_prefix, List.prefix_iff_eq_take]
  simp only [decide_eq_true_eq]
  constructor
  · intro e; exact e.symm
  · intro e; exact e.symm
theorem last_get (s : S) (h : 0 < s.size) : s.data.toList.getLast? = some s[s.size - 1] := by
  rw [List.getLast?_eq_getElem?, size_data, List.getElem?_eq_getElem (by rw [size_data]; omega)]; rfl
theorem last_cases (s : S) : (∃ _ : 0 < s.size, (((s[s.size - 1].toNat : Nat) : Int) == 93) = true) ∨ ((¬ 0 < s.size ∨ ∃ _ : 0 < s.size, (((s[s.size - 1].toNat : Nat) : Int) == 93) = false) ∧ s.data.toList.getLast? ≠ some 93) := by
  by_cases h : 0 < s.size
  · by_cases h93 : s[s.size - 1] = 93
    · exact .inl ⟨h, by rw [h93]; decide⟩
    · refine .inr ⟨.inr ⟨h, ?_⟩, by rw [last_get s h]; simpa using h93⟩
      rw [beq_eq_false_iff_ne]; intro e; exact h93 (UInt8.toNat_inj.1 (by simpa using (by omega : s[s.size - 1].toNat = 93)))
  · refine .inr ⟨.inl h, ?_⟩
    have : s.data.toList = [] := List.eq_nil_of_length_eq_zero (by rw [size_data]; omega)
    rw [this]; simp
theorem noEnd_of {l : Bs} (h : ∀ j, eData.isPrefixOf (l.drop j) = false) : noEnd l = true := by
  induction l with
  | nil => rfl
  | cons c l ih =>
    simp only [noEnd, Bool.and_eq_true, Bool.not_eq_true']
    exact ⟨h 0, ih fun j => h (j + 1)⟩
theorem noEnd_all {s : S} {k : Nat} (hk : ¬ k + 2 < s.size) (h : ∀ j, j < k → eData.isPrefixOf (s.data.toList.drop j) = false) : noEnd s.data.toList = true := by
  refine noEnd_of fun j => ?_
  by_cases hj : j < k
  · exact h j hj
  · cases hp : eData.isPrefixOf (s.data.toList.drop j) with
    | false => rfl
    | true =>
      have := (List.isPrefixOf_iff_prefix.1 hp).length_le
      rw [List.length_drop, size_data] at this
      simp [eData] at this; omega

set_option maxRecDepth 100000 in
set_option maxHeartbeats 8000000 in
theorem plain_any (s0 : S) (m : Int) (w : World) (hm : w.cell? ⟨0, 0, none⟩ = some (.int .i64 m)) :
    Calls Try.prog 7 #[.string s0] w fun e w' => e = .returned (.bool true) ∧ Below w.heap.size w w' := by
  have hw0 : 0 < w.heap.size := World.block_lt_of_cell? w _ hm
  have HM := Lib.hid hm
  clear hm
  have hs := cutS_size s0
  have HCUT := Lib.hid (fun w => cut_any s0 w)
  generalize cutS s0 = s at *
  go_enter Try.func7, Try.ntmps7
  go_wp2_with fail
  refine (HCUT.out _).mono ?_
  rintro e w' ⟨rfl, rfl⟩
  go_wp2_with fail
  go_loop [3, 15] (fun _ i => ∃ k : Nat, k ≤ s.size ∧ i = .int .i64 k ∧ Hid (∀ c ∈ s.data.toList.take k, cText c = true)) (fun _ i => s.size - (intOf i).toNat)
  case atStart => exact ⟨0, Nat.zero_le _, rfl, by intro c hc; simp at hc⟩
  case round =>
    obtain ⟨k, hk, rfl, HT⟩ := hrel
    by_cases hlt : k < s.size
    · cases hc : cText s[k]
      · have HC := Lib.hid hc
        clear hc
        go_wp2_with fail
        refine (is16_any _ _).mono ?_
        rintro e w' ⟨rfl, rfl⟩
        rw [HC.out]
        go_wp2_with fail
        refine (lives_any m _ HM.out).mono ?_
        rintro e w2 ⟨rfl, hb2⟩
        have HB := Lib.hid hb2
        clear hb2
        go_wp2
        go_ret
        exact ⟨rfl, HB.out⟩
      · have HC := Lib.hid hc
        clear hc
        go_wp2_with fail
        refine (is16_any _ _).mono ?_
        rintro e w' ⟨rfl, rfl⟩
        rw [HC.out]
        go_wp2
        go_round
        case rel =>
          refine ⟨k + 1, by omega, by go_num, ?_⟩
          intro c hc
          rw [take_byte s k hlt] at hc
          rcases List.mem_append.1 hc with hc | hc
          · exact HT.out c hc
          · simp at hc; subst hc; exact HC.out
        case measure => simp [intOf]; omega
    · obtain rfl : k = s.size := by omega
      have hall : ∀ c ∈ s.data.toList, cText c = true := by
        have := HT.out
        rwa [List.take_of_length_le (by rw [size_data]; exact Nat.le_refl _)] at this
      have HALL := Lib.hid hall
      clear hall HT
      obtain ⟨E, hE⟩ : ∃ E : S, E = bs (esc false s.data.toList) := ⟨_, rfl⟩
      have hEs : E.size ≤ 12000 := by
        rw [hE, bs_size]
        have := (esc_len false s.data.toList).2
        rw [size_data] at this; omega
      have hTs : ((⟨#[60, 97, 47, 62]⟩ : S) ++ E).size ≤ 65536 := by
        rw [ByteArray.size_append]
        have : (⟨#[60, 97, 47, 62]⟩ : S).size = 4 := rfl
        omega
      have HESC : Hid (∀ w, Calls Try.prog 27 #[.string s, .bool false] w fun e w' => e = .returned (.string E) ∧ w = w') := fun w => by rw [hE]; exact refEscape_any s false w (by omega)
      have HE := Lib.hid hE
      clear hE
      by_cases h0 : s.size = 0
      case' pos =>
        have hA := all_ok _ m w hTs HM.out (plain_none s h0 E HE.out)
        have HA := Lib.hid hA
        have HH0 := Lib.hid h0
        have em : s.toList = [] := List.isEmpty_iff.1 (by rw [empty_data, h0]; rfl)
        clear hA h0 hTs
        go_wp2_with fail
        refine (HESC.out _).mono ?_
        rintro e w' ⟨rfl, rfl⟩
        go_wp2_with fail
        refine HA.out.mono ?_
        intro e w1 hO
        obtain ⟨ov, L, rfl, hT, hb1⟩ := hO
        obtain ⟨g, o, cap, av, rfl, hg1, -⟩ := hT.at (i := 0) rfl
        have hw1 := hb1.size
        have HB1 := Lib.hid hb1
        clear hb1 hT
        unfold zeroPlace
        simp only [List.length_cons, List.length_nil]
        go_wp2_with fail
      case' neg =>
        have hA := all_ok _ m w hTs HM.out (plain_text s HALL.out h0 E HE.out)
        have HA := Lib.hid hA
        have HH0 := Lib.hid h0
        have em : s.toList.isEmpty = false := by rw [empty_data]; simpa using h0
        clear hA h0 hTs
        go_wp2_with fail
        refine (HESC.out _).mono ?_
        rintro e w' ⟨rfl, rfl⟩
        go_wp2_with fail
        refine HA.out.mono ?_
        intro e w1 hO
        obtain ⟨ov, L, rfl, hT, hb1⟩ := hO
        obtain ⟨g, o, cap, av, rfl, hg1, -⟩ := hT.at (i := 0) rfl
        obtain ⟨g2, o2, cap2, av2, e2, -, -, -, -, c3, -⟩ := hT.at (i := 1) rfl
        cases e2
        have c3' : w1.cell? ⟨g, o + 7 + 3, none⟩ = some (.string s) := by rw [data_bs] at c3; simpa using c3
        have hw1 := hb1.size
        have HB1 := Lib.hid hb1
        have HT := Lib.hid hT
        clear c3 hb1 hT
        unfold zeroPlace
        simp only [List.length_cons, List.length_nil]
        go_wp2_with fail
        clear c3'
      all_goals
        clear HA HESC HE em HH0 hg1 hEs
        refine wp_world ?_
        intro W hW
        have hB : Below w1.heap.size w1 W := by rw [hW]; exact (Below.refl _ _).alloc (Nat.le_refl _) _
        clear hW
        have HB := Lib.hid (HB1.out.trans (hB.mono hw1))
        have HMW : Hid (W.cell? ⟨0, 0, none⟩ = some (.int .i64 m)) := (hB.cell (by simp; omega)).trans ((HB1.out.cell (by simp; omega)).trans HM.out)
        have hWw : w.heap.size ≤ W.heap.size := Nat.le_trans hw1 hB.size
        clear hB HB1 hw1
        go_loop [7] (fun i => ∃ k : Nat, k ≤ s.size ∧ i = .int .i64 k ∧ Hid (∀ j, j < k → eData.isPrefixOf (s.data.toList.drop j) = false)) (fun i => s.size - (intOf i).toNat)
        case atStart => exact ⟨0, Nat.zero_le _, rfl, by intro j hj; omega⟩
        case round =>
          obtain ⟨k, hk, rfl, HP⟩ := hrel
          by_cases hlt : k + 2 < s.size
          · have hp := pre3 s k
            cases he : eData.isPrefixOf (s.data.toList.drop k)
            · rw [he] at hp
              have HE := Lib.hid he
              clear he
              go_wp2
              go_round
              case rel =>
                refine ⟨k + 1, by omega, by go_num, ?_⟩
                intro j hj
                by_cases e : j = k
                · subst e; exact HE.out
                · exact HP.out j (by omega)
              case measure => simp [intOf]; omega
            · rw [he] at hp
              clear he
              go_wp2_with fail
              refine (lives_any m _ HMW.out).mono ?_
              rintro e w2 ⟨rfl, hb2⟩
              have HZ := Lib.hid (HB.out.trans (hb2.mono hWw))
              clear hb2
              go_wp2
              go_ret
              exact ⟨rfl, HZ.out⟩
          · have HN := Lib.hid (noEnd_all hlt HP.out)
            clear HP
            have h3 := last_cases s
            have hTT : ((⟨#[60, 33, 91, 67, 68, 65, 84, 65, 91]⟩ : S) ++ s ++ (⟨#[93, 93, 62]⟩ : S)).size ≤ 65536 := by
              rw [ByteArray.size_append, ByteArray.size_append]
              have h1 : (⟨#[60, 33, 91, 67, 68, 65, 84, 65, 91]⟩ : S).size = 9 := rfl
              have h2 : (⟨#[93, 93, 62]⟩ : S).size = 3 := rfl
              omega
            rcases h3 with ⟨hz, e93⟩ | ⟨hz | ⟨hz, e93⟩, hl⟩
            · clear hTT
              go_wp2_with fail
              refine (lives_any m _ HMW.out).mono ?_
              rintro e w2 ⟨rfl, hb2⟩
              have HZ := Lib.hid (HB.out.trans (hb2.mono hWw))
              clear hb2
              go_wp2
              go_ret
              exact ⟨rfl, HZ.out⟩
            all_goals
              have HA2 := Lib.hid (all_ok _ m W hTT HMW.out (data_text s HALL.out HN.out hl))
              clear hTT hl
              go_wp2_with fail
              refine HA2.out.mono ?_
              intro e w2 hO
              obtain ⟨ov, L2, rfl, hT, hb2⟩ := hO
              obtain ⟨g2, o2, cap2, av2, rfl, hg2, c0, -, -, c3, -⟩ := hT.at (i := 0) rfl
              rw [data_bs] at c3
              have c0' : w2.cell? ⟨g2, o2, none⟩ = some (.int .i64 4) := by simpa using c0
              have c3' : w2.cell? ⟨g2, o2 + 3, none⟩ = some (.string s) := by simpa using c3
              have HB2 := Lib.hid hb2
              have hs2 := hb2.size
              clear c0 c3 hb2 hT
              unfold zeroPlace
              simp only [List.length_singleton]
              go_wp2_with fail
              clear c0' c3'
              refine Calls.world ?_
              intro W2 hW2
              have hB2 : Below w2.heap.size w2 W2 := by rw [hW2]; exact (Below.refl _ _).alloc (Nat.le_refl _) _
              clear hW2
              have hm2 : W2.cell? ⟨0, 0, none⟩ = some (.int .i64 m) := (hB2.cell (by simp; omega)).trans ((HB2.out.cell (by simp; omega)).trans HMW.out)
              refine (lives_any m W2 hm2).mono ?_
              rintro e w3 ⟨rfl, hb3⟩
              have HZ := Lib.hid (((HB.out.trans (HB2.out.mono hWw)).trans (hB2.mono (Nat.le_trans hWw hs2))).trans (hb3.mono (Nat.le_trans (Nat.le_trans hWw hs2) hB2.size)))
              clear hm2 hB2 hb3
              go_wp2
              go_ret
              exact ⟨rfl, HZ.out⟩

end Go.Proofs.Ytpchljiiappmnaa
