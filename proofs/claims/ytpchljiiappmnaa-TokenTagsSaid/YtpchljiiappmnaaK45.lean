/- The walk of the law TokenTags, where the name is one; its conditions stand in the theorem. -/
import Derived.Test.YtpchljiiappmnaaK44
namespace Go.Proofs.Ytpchljiiappmnaa
open Go Go.RowKit

set_option maxRecDepth 100000 in
set_option maxHeartbeats 16000000 in
theorem tags_good (s : S) (v : Value) (l : List At2) (h m : Int) (w : World) (hm : w.cell? ⟨0, 0, none⟩ = some (.int .i64 m)) (hl : SliceOf 2 atC w v l)
    (hz : ∀ a ∈ l, a.1.length ≤ 9223372036854775807 ∧ a.2.length ≤ 9223372036854775807)
    (c1 : nameLen s.data.toList = s.size) (c2 : s.size ≠ 0) (c3 : s.size ≤ 500) (c4 : l.length ≤ 8) :
    Calls Try.prog 6 #[.string s, v, .int .u64 h] w fun e w' => e = .returned (.bool true) ∧ Below w.heap.size w w' := by
  obtain ⟨ao, cap, hv⟩ := hl.shape
  have hcap : l.length ≤ cap ∧ cap ≤ 9223372036854775807 := by
    obtain ⟨_, _, e, h2, h3, -⟩ := hl
    rw [hv] at e
    simp only [Value.slice.injEq] at e
    unfold maxLen at h3; omega
  obtain ⟨hc1, hc2⟩ := hcap
  subst hv
  have hw0 : 0 < w.heap.size := World.block_lt_of_cell? w _ hm
  have HM := Lib.hid hm
  have HSL := Lib.hid hl
  have HN : Hid (∀ w, Calls Try.prog 25 #[.string s] w fun e w' => e = .returned (.int .i64 (s.size : Nat)) ∧ w = w') := fun w => by rw [← c1]; exact refName_any s w (by omega)
  have HC1 := Lib.hid c1
  have HC2 := Lib.hid c2
  have em : s.toList.isEmpty = false := by rw [empty_data]; simpa using c2
  clear hm hl c1 c2
  go_enter Try.func6, Try.ntmps6
  go_wp2_with fail
  refine (HN.out _).mono ?_
  rintro e w' ⟨rfl, rfl⟩
  go_wp2_with fail
  clear em HN
  have HT0 : Hid (TagsAt s.data.toList l 0 ((⟨#[60]⟩ : S) ++ s)) := by
    have h1 := TagsAt.start s.data.toList l (by rw [size_data]; exact c3)
    have e1 : (⟨#[60]⟩ : S) ++ s = bs (60 :: s.data.toList) := by
      rw [← data_bs s, show (⟨#[60]⟩ : S) = bs [60] from rfl, bs_append, bs_data]; rfl
    show TagsAt _ _ _ _
    rw [e1]; exact h1
  go_loopw [7, 8, 9, 10, 12, 13, 44] (fun t _ _ _ _ _ i wr => ∃ (k : Nat) (T : S), k ≤ l.length ∧ i = .int .i64 k ∧ t = .string T ∧ Hid (TagsAt s.data.toList l k T) ∧ Below w.heap.size w wr) (fun _ _ _ _ _ _ i _ => l.length - (intOf i).toNat)
  case atStart => exact ⟨0, _, Nat.zero_le _, rfl, rfl, HT0.out, Below.refl _ _⟩
  case round =>
    obtain ⟨k, T, hk, rfl, rfl, HT, hB⟩ := hrel
    obtain ⟨wo, rfl⟩ : ∃ wo : World, wo = wr := ⟨_, rfl⟩
    clear HT0
    have hTs := HT.out.size
    have hwr := hB.size
    have HB := Lib.hid hB
    by_cases hlt : k < l.length
    · obtain ⟨g, o, rfl, hg, hc⟩ := HSL.out.at hlt
      have d0 := (hB.cell (by exact hg)).trans (hc 0 _ rfl)
      have d1 := (hB.cell (by exact hg)).trans (hc 1 _ rfl)
      rw [Nat.add_zero] at d0
      have hgr : g < wo.heap.size := Nat.lt_of_lt_of_le hg hwr
      clear hc hB
      obtain ⟨N, hN⟩ : ∃ N : S, bs l[k].1 = N := ⟨_, rfl⟩
      obtain ⟨V, hV⟩ : ∃ V : S, bs l[k].2 = V := ⟨_, rfl⟩
      rw [hN] at d0
      rw [hV] at d1
      have hND : N.data.toList = l[k].1 := by rw [← hN, bs_data]
      have hVD : V.data.toList = l[k].2 := by rw [← hV, bs_data]
      have hNz : N.size ≤ 9223372036854775807 := by rw [← size_data, hND]; exact (hz _ (List.getElem_mem hlt)).1
      have hVz : V.size ≤ 9223372036854775807 := by rw [← size_data, hVD]; exact (hz _ (List.getElem_mem hlt)).2
      have HND := Lib.hid hND
      have HVD := Lib.hid hVD
      have hi1 : (k : Int) < (l.length : Int) := by omega
      clear hN hV hND hVD
      go_wp2_with fail
      clear d0 d1
      refine wp_world ?_
      intro W hW
      have x : Box W wo.heap.size [.string N, .string V] := by rw [hW]; exact Box.new wo _ _ _ rfl
      have hBW : Below wo.heap.size wo W := by rw [hW]; exact (Below.refl _ _).alloc (Nat.le_refl _) _
      clear hW
      have HX := Lib.hid x
      have y0 := x.cell 0 _ rfl
      have y1 := x.cell 1 _ rfl
      have ly := x.lt
      have HM2 : Hid (W.cell? ⟨0, 0, none⟩ = some (.int .i64 m)) := (hBW.cell (by simp; omega)).trans ((HB.out.cell (by simp; omega)).trans HM.out)
      have HB2 := Lib.hid (HB.out.trans (hBW.mono hwr))
      have hwW : w.heap.size ≤ W.heap.size := Nat.le_trans hwr hBW.size
      have hwrW : wo.heap.size < W.heap.size := ly
      clear x hBW
      have hcs := name_cases N V
      have HNR : Hid (∀ j, Calls Try.prog 25 #[.string N] (W.drewN j) fun e w'' => e = .returned (.int .i64 (nameLen N.data.toList : Nat)) ∧ ∃ q, w'' = W.drewN q) := fun j => quietS (refName_any N (W.drewN j) hNz)
      obtain ⟨n, hn⟩ : ∃ n, nameLen N.data.toList = n := ⟨_, rfl⟩
      have HNL := Lib.hid hn
      rw [hn] at HNR hcs
      clear hn
      rcases hcs with g1 | ⟨g1, g2 | ⟨g2, g3 | ⟨g3, g4 | g4⟩⟩⟩
      rotate_left 4
      · have f1 : decide ((500 : Int) < ((N.size : Nat) : Int)) = false := by rw [decide_eq_false_iff_not]; omega
        have f2 : decide ((500 : Int) < ((V.size : Nat) : Int)) = false := by rw [decide_eq_false_iff_not]; omega
        have HG1 : Hid (n = N.size) := by
          have := g1
          rw [bne_eq_false_iff_eq] at this
          show _ = _; omega
        have HG2 : Hid (N.size ≠ 0) := by
          have := g2
          rw [empty_data, decide_eq_false_iff_not] at this
          exact this
        go_wp2
        go_quiet ((go_at_call 25; exact HNR.out _))
        go_wp2_with fail
        clear f1 f2 g1 g2 y0 y1
        have x1 := HX.out.drewN nq
        have hM1 : (W.drewN nq).cell? ⟨0, 0, none⟩ = some (.int .i64 m) := HM2.out
        have hB1 : Below w.heap.size w (W.drewN nq) := belowN HB2.out nq
        have hs1 : (W.drewN nq).heap.size = W.heap.size := rfl
        generalize W.drewN nq = W1 at *
        have HX1 := Lib.hid x1
        have HM1 := Lib.hid hM1
        have HB1 := Lib.hid hB1
        have y0 := x1.cell 0 _ rfl
        have y1 := x1.cell 1 _ rfl
        have ly1 := x1.lt
        have hwW1 : w.heap.size ≤ W1.heap.size := hB1.size
        clear HNR HX HM2 HB2 hwW hwrW ly hM1 hB1 x1 hs1
        go_loop [10, 77] (fun _ i => ∃ j : Nat, j ≤ V.size ∧ i = .int .i64 j ∧ Hid (∀ c ∈ V.data.toList.take j, cText c = true)) (fun _ i => V.size - (intOf i).toNat)
        case atStart => exact ⟨0, Nat.zero_le _, rfl, by intro c hc; simp at hc⟩
        case round =>
          obtain ⟨j, hj, rfl, HTX⟩ := hrel
          by_cases hjlt : j < V.size
          · have hji : (j : Int) < (V.size : Int) := by omega
            cases hc : cText V[j]
            · have HC := Lib.hid hc
              clear hc
              go_wp2_with fail
              refine (is16_any _ _).mono ?_
              rintro e w' ⟨rfl, rfl⟩
              rw [HC.out]
              go_wp2_with fail
              refine (lives_any m _ HM1.out).mono ?_
              rintro e w2 ⟨rfl, hb2⟩
              have HZ := Lib.hid (HB1.out.trans (hb2.mono hwW1))
              clear hb2
              go_wp2
              go_ret
              exact ⟨rfl, HZ.out⟩
            · have HC := Lib.hid hc
              clear hc
              go_wp2_with fail
              refine (is16_any _ _).mono ?_
              rintro e w' ⟨rfl, rfl⟩
              rw [HC.out]
              go_wp2
              go_round
              case rel =>
                refine ⟨j + 1, by omega, by go_num, ?_⟩
                intro c hc
                rw [take_byte V j hjlt] at hc
                rcases List.mem_append.1 hc with hc | hc
                · exact HTX.out c hc
                · simp at hc; subst hc; exact HC.out
              case measure => simp [intOf]; omega
          · obtain rfl : j = V.size := by omega
            have HTV : Hid (∀ c ∈ V.data.toList, cText c = true) := by
              have := HTX.out
              rwa [List.take_of_length_le (by rw [size_data]; exact Nat.le_refl _)] at this
            have hji : ¬ (V.size : Int) < (V.size : Int) := by omega
            have hkc : (k : Int) ≤ (cap : Int) := by omega
            clear HTX
            go_wp2_with fail
            clear y0 y1 hji
            go_loopw [12, 92] (fun _ i wr => ∃ j : Nat, j ≤ k ∧ i = .int .i64 j ∧ Below W1.heap.size W1 wr ∧ Hid (∀ a ∈ l.take j, a.1 ≠ l[k].1)) (fun _ i _ => k - (intOf i).toNat)
            case atStart => exact ⟨0, Nat.zero_le _, rfl, Below.refl _ _, by intro a ha; simp at ha⟩
            case round =>
              obtain ⟨j, hj, rfl, hbv, HU⟩ := hrel
              have hM3 : wr.cell? ⟨0, 0, none⟩ = some (.int .i64 m) := (hbv.cell (by simp; omega)).trans HM1.out
              have hwr1 : W1.heap.size ≤ wr.heap.size := hbv.size
              by_cases hjlt : j < k
              · obtain ⟨g2, o2, e, hg2, hc⟩ := HSL.out.at (Nat.lt_trans hjlt hlt)
                simp only [Option.some.injEq, Addr.mk.injEq] at e
                obtain ⟨rfl, rfl, -⟩ := e
                have tr : ∀ q u, w.cell? ⟨g, q, none⟩ = some u → wr.cell? ⟨g, q, none⟩ = some u := fun q u hq => (hbv.cell (by exact Nat.lt_of_lt_of_le hg hwW1)).trans ((HB1.out.cell (by exact hg)).trans hq)
                have d0 := tr _ _ (hc 0 _ rfl)
                have d1 := tr _ _ (hc 1 _ rfl)
                rw [Nat.add_zero] at d0
                have hji : (j : Int) < (k : Int) := by omega
                have y0 := (hbv.cell (by exact ly1)).trans (HX1.out.cell 0 _ rfl)
                have lyr : wo.heap.size < wr.heap.size := Nat.lt_of_lt_of_le ly1 hwr1
                have hgv : g < wr.heap.size := Nat.lt_of_lt_of_le (Nat.lt_of_lt_of_le hg hwW1) hwr1
                have HBV := Lib.hid hbv
                have HM3 := Lib.hid hM3
                have heq : ((bs l[j].1).toList == N.toList) = decide (l[j].1 = l[k].1) := by rw [← HND.out, ← bs_beq, data_bs]
                clear hbv hM3 hc tr
                cases hd : decide (l[j].1 = l[k].1)
                · rw [hd] at heq
                  have HD := Lib.hid hd
                  clear hd
                  go_wp2
                  go_roundw
                  case rel =>
                    refine ⟨j + 1, hjlt, by go_num, HBV.out.alloc (by simpa using hwr1) _, ?_⟩
                    intro a ha
                    rw [List.take_succ_eq_append_getElem (Nat.lt_trans hjlt hlt)] at ha
                    rcases List.mem_append.1 ha with ha | ha
                    · exact HU.out a ha
                    · simp at ha; subst ha; exact of_decide_eq_false HD.out
                  case measure => simp [intOf]; omega
                · rw [hd] at heq
                  clear hd
                  go_wp2_with fail
                  refine Calls.world ?_
                  intro W3 hW3
                  have hB3 : Below wr.heap.size wr W3 := by rw [hW3]; exact (Below.refl _ _).alloc (Nat.le_refl _) _
                  clear hW3
                  refine (lives_any m W3 ((hB3.cell (by simp; omega)).trans HM3.out)).mono ?_
                  rintro e w2 ⟨rfl, hb2⟩
                  have HZ := Lib.hid (((HB1.out.trans (HBV.out.mono hwW1)).trans (hB3.mono (Nat.le_trans hwW1 hwr1))).trans (hb2.mono (Nat.le_trans (Nat.le_trans hwW1 hwr1) hB3.size)))
                  clear hB3 hb2
                  go_wp2
                  go_ret
                  exact ⟨rfl, HZ.out⟩
              · obtain rfl : j = k := by omega
                have hji : ¬ (j : Int) < (j : Int) := by omega
                have x2 := HX1.out.below hbv ly1
                have y0 := x2.cell 0 _ rfl
                have y1 := x2.cell 1 _ rfl
                have ly2 := x2.lt
                have HBV := Lib.hid hbv
                obtain ⟨E, hE⟩ : ∃ E : S, E = bs (esc true V.data.toList) := ⟨_, rfl⟩
                have HESC : Hid (∀ w, Calls Try.prog 27 #[.string V, .bool true] w fun e w' => e = .returned (.string E) ∧ w = w') := fun w => by rw [hE]; exact refEscape_any V true w (by omega)
                have hEs : E.size ≤ 3000 := by
                  rw [hE, bs_size]
                  have := (esc_len true V.data.toList).2
                  rw [size_data] at this; omega
                have HE := Lib.hid hE
                have hGA : GoodA l[j] := by
                  have h1 := HNL.out
                  rw [HND.out] at h1
                  have h2 := HG1.out
                  have h3 : N.size = l[j].1.length := by rw [← HND.out, size_data]
                  refine ⟨by omega, fun e => HG2.out (by rw [h3, e]; rfl), ?_⟩
                  rw [← HVD.out]; exact HTV.out
                have hnin : l[j].1 ∉ (l.take j).map (·.1) := by
                  intro hin
                  obtain ⟨a, ha, e⟩ := List.mem_map.1 hin
                  exact HU.out a ha e
                have hl1 : l[j].1.length ≤ 500 := by rw [← HND.out, size_data]; omega
                have hl2 : l[j].2.length ≤ 500 := by rw [← HVD.out, size_data]; omega
                have HST : Hid (∀ q, TagsAt s.data.toList l (j + 1) (T ++ bs (attT q l[j]))) := fun q => HT.out.step q hlt hGA hnin hl1 hl2
                have HBR := Lib.hid (HB1.out.trans (HBV.out.mono hwW1))
                clear hGA hnin hl1 hl2
                clear hE x2 hbv hM3
                go_wp2_with fail
                refine (HESC.out _).mono ?_
                rintro e w' ⟨rfl, rfl⟩
                go_wp2_with fail
                rotate_left 1
                · go_round
                  case rel => exact ⟨j + 1, _, hlt, by go_num, rfl, by rw [att_double HND.out HVD.out HE.out]; exact HST.out false, HBR.out⟩
                  case measure => simp [intOf]; omega
                obtain ⟨A, hA⟩ : ∃ A : S, A = bs (aposR E.data.toList) := ⟨_, rfl⟩
                have hAs : A.size ≤ 18000 := by
                  rw [hA, bs_size]
                  have := aposR_len E.data.toList
                  rw [size_data] at this; omega
                have HAP : Hid (∀ i, Calls Try.prog 28 #[.string E] (wr.drewN i) fun e w'' => e = .returned (.string A) ∧ ∃ q, w'' = wr.drewN q) := fun i => quietS (by rw [hA]; exact apos_any E (wr.drewN i) (by omega))
                have HA := Lib.hid hA
                clear hA
                go_quiet ((go_at_call 28; exact HAP.out _))
                go_wp2
                go_round
                case rel => exact ⟨j + 1, _, hlt, by go_num, rfl, by rw [HA.out, att_single HND.out HVD.out HE.out]; exact HST.out true, belowN HBR.out _⟩
                case measure => simp [intOf]; omega
      rotate_right 4
      all_goals
        clear hk
        first
          | (have f1 : decide ((500 : Int) < ((N.size : Nat) : Int)) = true := by rw [decide_eq_true_iff]; omega)
          | (have f1 : decide ((500 : Int) < ((N.size : Nat) : Int)) = false := by rw [decide_eq_false_iff_not]; omega
             have f2 : decide ((500 : Int) < ((V.size : Nat) : Int)) = true := by rw [decide_eq_true_iff]; omega)
          | skip
        go_wp2
        go_quiet ((go_at_call 25; exact HNR.out _))
        go_wp2_with fail
        refine (lives_any m (W.drewN nq) HM2.out).mono ?_
        rintro e w2 ⟨rfl, hb2⟩
        have HZ := Lib.hid ((belowN HB2.out nq).trans (hb2.mono hwW))
        clear hb2
        go_wp2
        go_ret
        exact ⟨rfl, HZ.out⟩
    · obtain rfl : k = l.length := by omega
      have hi1 : ¬ (l.length : Int) < (l.length : Int) := by omega
      have HMr := Lib.hid ((hB.cell (by exact hw0)).trans HM.out)
      have HSr := Lib.hid (HSL.out.below (hB.mono (Nat.le_refl _)))
      obtain ⟨ps, e1, e2, e3⟩ := HT.out.ex
      rw [List.take_length] at e1
      have hnd := HT.out.nodup
      rw [List.take_length] at hnd
      have hne : s.data.toList ≠ [] := fun e => HC2.out (by rw [← size_data, e]; rfl)
      have hnl : nameLen s.data.toList = s.data.toList.length := by rw [size_data]; exact HC1.out
      have hA1 := tags_all s.data.toList ps hnl hne e3 (by rw [e1]; exact hnd) [32, 62] 1 (.inl ⟨rfl, rfl⟩)
      have hA2 := tags_all s.data.toList ps hnl hne e3 (by rw [e1]; exact hnd) [47, 62] 2 (.inr ⟨rfl, rfl⟩)
      rw [e1] at hA1 hA2
      have t1 : T ++ (⟨#[32, 62]⟩ : S) = bs (60 :: (s.data.toList ++ (attsT ps ++ [32, 62]))) := by
        rw [e2, show (⟨#[32, 62]⟩ : S) = bs [32, 62] from rfl, bs_append]; simp
      have t2 : T ++ (⟨#[47, 62]⟩ : S) = bs (60 :: (s.data.toList ++ (attsT ps ++ [47, 62]))) := by
        rw [e2, show (⟨#[47, 62]⟩ : S) = bs [47, 62] from rfl, bs_append]; simp
      have z1 : (T ++ (⟨#[32, 62]⟩ : S)).size ≤ 65536 := by
        rw [ByteArray.size_append]
        have : (⟨#[32, 62]⟩ : S).size = 2 := rfl
        omega
      have z2 : (T ++ (⟨#[47, 62]⟩ : S)).size ≤ 65536 := by
        rw [ByteArray.size_append]
        have : (⟨#[47, 62]⟩ : S).size = 2 := rfl
        omega
      have HA1 : Hid (∀ W, W.cell? ⟨0, 0, none⟩ = some (.int .i64 m) → Calls Try.prog 20 #[.string (T ++ (⟨#[32, 62]⟩ : S))] W fun e w' => ∃ ao cap, e = .returned (.tuple #[.slice ao 1 cap, .int .i64 0, zeroPlace]) ∧ TksOf w' (.slice ao 1 cap) [⟨1, s.data.toList, l, []⟩] ∧ Below W.heap.size W w') := fun W hW => by
        refine (all_ok _ m W z1 hW (by rw [t1, bs_data]; exact hA1)).mono fun e w' hO => ?_
        obtain ⟨ov, L, rfl, hT, hb⟩ := hO
        obtain ⟨ao, cap, rfl, -⟩ := hT.tks.shape
        exact ⟨ao, cap, rfl, hT.tks, hb⟩
      have HA2 : Hid (∀ W, W.cell? ⟨0, 0, none⟩ = some (.int .i64 m) → Calls Try.prog 20 #[.string (T ++ (⟨#[47, 62]⟩ : S))] W fun e w' => ∃ ao cap, e = .returned (.tuple #[.slice ao 1 cap, .int .i64 0, zeroPlace]) ∧ TksOf w' (.slice ao 1 cap) [⟨2, s.data.toList, l, []⟩] ∧ Below W.heap.size W w') := fun W hW => by
        refine (all_ok _ m W z2 hW (by rw [t2, bs_data]; exact hA2)).mono fun e w' hO => ?_
        obtain ⟨ov, L, rfl, hT, hb⟩ := hO
        obtain ⟨ao, cap, rfl, -⟩ := hT.tks.shape
        exact ⟨ao, cap, rfl, hT.tks, hb⟩
      have HS1 : Hid (∀ (w : World) v1 v2, TksOf w v1 [⟨1, s.data.toList, l, []⟩] → TksOf w v2 [⟨1, s.data.toList, l, []⟩] → Calls Try.prog 22 #[v1, v2] w (Qt (.bool true) w)) := fun w v1 v2 h1 h2 => by
        have := same_any v1 v2 _ _ w h1 h2
        rwa [decide_eq_true rfl] at this
      have HS2 : Hid (∀ (w : World) v1 v2, TksOf w v1 [⟨2, s.data.toList, l, []⟩] → TksOf w v2 [⟨2, s.data.toList, l, []⟩] → Calls Try.prog 22 #[v1, v2] w (Qt (.bool true) w)) := fun w v1 v2 h1 h2 => by
        have := same_any v1 v2 _ _ w h1 h2
        rwa [decide_eq_true rfl] at this
      clear e1 e2 e3 hnd hne hnl hA1 hA2 t1 t2 z1 z2 HT hB
      go_wp2_with fail
      refine (HA1.out _ HMr.out).mono ?_
      rintro e w1 ⟨ao1, cap1, rfl, hT1, hb1⟩
      have hm1 := (hb1.cell (by have := World.block_lt_of_cell? _ _ HMr.out; exact this)).trans HMr.out
      have HB1 := Lib.hid (HB.out.trans (hb1.mono hwr))
      have HS3 := Lib.hid (HSr.out.below hb1)
      have hsz1 : w.heap.size ≤ w1.heap.size := Nat.le_trans hwr hb1.size
      have HT1 := Lib.hid hT1
      have HM1 := Lib.hid hm1
      clear hT1 hb1 hm1
      unfold zeroPlace
      go_wp2_with fail
      refine Calls.world ?_
      intro W2 hW2
      have hB2 : Below w1.heap.size w1 W2 := by rw [hW2]; exact (Below.refl _ _).alloc (Nat.le_refl _) _
      clear hW2
      have hm2 : W2.cell? ⟨0, 0, none⟩ = some (.int .i64 m) := (hB2.cell (by simp; omega)).trans HM1.out
      refine (HA2.out _ hm2).mono ?_
      rintro e w2 ⟨ao2, cap2, rfl, hT2, hb2⟩
      have hB12 := hB2.trans (hb2.mono hB2.size)
      have HM2 := Lib.hid ((hb2.cell (by have := hB2.size; simp; omega)).trans hm2)
      have HB2 := Lib.hid (HB1.out.trans (hB12.mono hsz1))
      have HT12 := Lib.hid (HT1.out.below hB12)
      have HS4 := Lib.hid (HS3.out.below hB12)
      have HT2 := Lib.hid hT2
      have hsz2 : w.heap.size ≤ w2.heap.size := Nat.le_trans hsz1 hB12.size
      clear hT2 hb2 hB2 hm2 hB12
      unfold zeroPlace
      go_wp2_with fail
      refine Calls.world ?_
      intro W3 hW3
      have hB3 : Below w2.heap.size w2 W3 := by rw [hW3]; exact ((Below.refl _ _).alloc (Nat.le_refl _) _).alloc (by simp) _
      have hT3 : TksOf W3 (.slice (some ⟨w2.heap.size + 1, 0, none⟩) 1 1) [⟨1, s.data.toList, l, []⟩] := by
        rw [hW3]; exact tksLit _ _ _ (by simp) 1 s _ l (HS4.out.below ((Below.refl _ _).alloc (Nat.le_refl _) _))
      clear hW3
      refine (HS1.out W3 _ _ (HT12.out.below hB3) hT3).mono ?_
      rintro e w' ⟨rfl, n1, rfl⟩
      have HB3 := Lib.hid hB3
      have hsz3 : w2.heap.size ≤ W3.heap.size := hB3.size
      have HS5 := Lib.hid (HS4.out.below hB3)
      have HT23 := Lib.hid (HT2.out.below hB3)
      have HM3 := Lib.hid ((hB3.cell (by simp; omega)).trans HM2.out)
      clear hB3 hT3
      go_wp2_with fail
      refine Calls.world ?_
      intro W4 hW4
      have hB4 : Below W3.heap.size W3 W4 := by rw [hW4]; exact (belowN (Below.refl _ _) n1).alloc (Nat.le_refl _) _
      have hT4 : TksOf W4 (.slice (some ⟨W3.heap.size, 0, none⟩) 1 1) [⟨2, s.data.toList, l, []⟩] := by
        rw [hW4]; exact tksLit _ _ _ rfl 2 s _ l (HS5.out.drewN n1)
      clear hW4
      refine (HS2.out W4 _ _ (HT23.out.below hB4) hT4).mono ?_
      rintro e w' ⟨rfl, n2, rfl⟩
      have HB4 := Lib.hid hB4
      have hsz4 : W3.heap.size ≤ W4.heap.size := hB4.size
      have HM4 : Hid ((W4.drewN n2).cell? ⟨0, 0, none⟩ = some (.int .i64 m)) := (hB4.cell (by simp; omega)).trans HM3.out
      clear hB4 hT4
      go_wp2_with fail
      refine (lives_any m (W4.drewN n2) HM4.out).mono ?_
      rintro e w5 ⟨rfl, hb5⟩
      have HZ := Lib.hid ((belowN ((HB2.out.trans (HB3.out.mono hsz2)).trans (HB4.out.mono (Nat.le_trans hsz2 hsz3))) n2).trans (hb5.mono (Nat.le_trans (Nat.le_trans hsz2 hsz3) hsz4)))
      clear hb5
      go_wp2
      go_ret
      exact ⟨rfl, HZ.out⟩

theorem tags_any (s : S) (v : Value) (l : List At2) (h m : Int) (w : World) (hm : w.cell? ⟨0, 0, none⟩ = some (.int .i64 m)) (hl : SliceOf 2 atC w v l) (hs : s.size ≤ 9223372036854775807)
    (hz : ∀ a ∈ l, a.1.length ≤ 9223372036854775807 ∧ a.2.length ≤ 9223372036854775807) :
    Calls Try.prog 6 #[.string s, v, .int .u64 h] w fun e w' => e = .returned (.bool true) ∧ Below w.heap.size w w' := by
  by_cases hb : nameLen s.data.toList = s.size ∧ s.size ≠ 0 ∧ s.size ≤ 500 ∧ l.length ≤ 8
  · exact tags_good s v l h m w hm hl hz hb.1 hb.2.1 hb.2.2.1 hb.2.2.2
  · exact tags_name s v l h m w hm hl hs hb

end Go.Proofs.Ytpchljiiappmnaa
