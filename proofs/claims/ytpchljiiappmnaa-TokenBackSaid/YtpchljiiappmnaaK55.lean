/- The walk of the document's Joined; its conditions stand in the theorem. -/
import Derived.Test.YtpchljiiappmnaaK54
namespace Go.Proofs.Ytpchljiiappmnaa
open Go Go.RowKit

theorem tkC_one {x : TkM} (h : ∃ ao n cap, x.av = .slice ao n cap) : ∀ u ∈ tkC x, u.oneCell' = true := by
  obtain ⟨ao, n, cap, h⟩ := h
  intro u hu
  simp only [tkC, h, List.mem_cons, List.not_mem_nil, or_false] at hu
  rcases hu with rfl | rfl | rfl | rfl | rfl | rfl | rfl <;> rfl

/-- A slice literal of one token that was read. -/
theorem tokLit (w : World) (T : TypeId) (H : Nat) (hH : w.heap.size = H) (x : TkM) {N X : S} {v : Value} (hN : bs x.t.name = N) (hX : bs x.t.text = X) (hv : x.av = v) :
    SliceOf 7 tkC (w.alloc (.cells #[.int .i64 x.t.kind, .string N, v, .string X, .int .i64 x.off, .int .i64 x.line, .int .i64 x.col] T)) (.slice (some ⟨H, 0, none⟩) 1 1) [x] := by
  have h := sliceLit tkC_len w [x] T H 1 hH rfl (by unfold maxLen; simp)
  subst hN; subst hX; subst hv
  exact h

set_option maxRecDepth 100000 in
set_option maxHeartbeats 16000000 in
theorem joined_any (v : Value) (L : List TkM) (w : World) (h : TkMs w v L) (hsz : tksW (L.map (·.t)) ≤ 1000000000) :
    Calls Try.prog 31 #[v] w fun e w' => ∃ ov, e = .returned ov ∧ TksOf w' ov (joined (L.map (·.t))) ∧ Below w.heap.size w w' := by
  obtain ⟨ao, cap, rfl⟩ := h.own.shape
  have hcap : L.length ≤ 50000000 := by have := tksW_len (L.map (·.t)); rw [List.length_map] at this; omega
  have HT := Lib.hid h
  clear h
  go_enter Try.func31, Try.ntmps31
  go_wp2_with fail
  go_loopw [3, 6, 9] (fun ov _ i wr => ∃ (k : Nat) (M : List TkM), k ≤ L.length ∧ i = .int .i64 k ∧ Hid (JoinAt w wr L k ov M)) (fun _ _ i _ => L.length - (intOf i).toNat)
  case atStart => exact ⟨0, [], Nat.zero_le _, rfl, ⟨Owns.nil, by simp, rfl, Nat.le_refl _, by simp, Below.refl _ _⟩⟩
  case round =>
    obtain ⟨k, M, hk, rfl, HJ⟩ := hrel
    have hB := HJ.out.below
    have HB := Lib.hid hB
    have hwr := hB.size
    by_cases hlt : k < L.length
    · obtain ⟨g, o, rfl, hg, hc⟩ := HT.out.own.at hlt
      have hA := HT.out.att L[k] (List.getElem_mem hlt)
      have tr : ∀ q u, w.cell? ⟨g, q, none⟩ = some u → wr.cell? ⟨g, q, none⟩ = some u := fun q u hq => (HB.out.cell (by exact hg)).trans hq
      have d0 := tr _ _ (hc 0 _ rfl)
      have d1 := tr _ _ (hc 1 _ rfl)
      have d2 := tr _ _ (hc 2 _ rfl)
      have d3 := tr _ _ (hc 3 _ rfl)
      have d4 := tr _ _ (hc 4 _ rfl)
      have d5 := tr _ _ (hc 5 _ rfl)
      have d6 := tr _ _ (hc 6 _ rfl)
      rw [Nat.add_zero] at d0
      have hgr : g < wr.heap.size := Nat.lt_of_lt_of_le hg hwr
      have hi1 : (k : Int) < (L.length : Int) := by omega
      have hw := tksW_get (l := L.map (·.t)) (k := k) (by simpa using hlt)
      rw [List.getElem_map] at hw
      have htw : tkW L[k].t ≤ 1000000000 := by omega
      unfold tkW at htw
      obtain ⟨ca, cpa, hav⟩ := hA.shape
      obtain ⟨oa, ocap, hov⟩ := HJ.out.own.shape
      obtain ⟨N, hN⟩ : ∃ N : S, bs L[k].t.name = N := ⟨_, rfl⟩
      obtain ⟨X, hX⟩ : ∃ X : S, bs L[k].t.text = X := ⟨_, rfl⟩
      have hXs : X.size ≤ 1000000000 := by rw [← hX, bs_size]; omega
      have hXd : X.data.toList = L[k].t.text := by rw [← hX, bs_data]
      have HN := Lib.hid hN
      have HX := Lib.hid hX
      have HXD := Lib.hid hXd
      have HA := Lib.hid hA
      have HAV := Lib.hid hav
      rw [hN] at d1
      rw [hX] at d3
      rw [hav] at d2
      subst hov
      have hML : M.length ≤ 50000000 := by have := HJ.out.len; omega
      clear hc tr hw hB hN hX hA hav hXd
      by_cases hsk : L[k].t.kind = 4 ∧ L[k].t.text = []
      · have e4 : (L[k].t.kind == 4) = true := by rw [hsk.1]; rfl
        have em : X.toList = [] := List.isEmpty_iff.1 (by rw [empty_data, ← size_data, HXD.out, hsk.2]; rfl)
        have HST := Lib.hid (HJ.out.skip (w' := wr.alloc (.cells #[.int .i64 L[k].t.kind, .string N, .slice ca L[k].t.attrs.length cpa, .string X, .int .i64 L[k].off, .int .i64 L[k].line, .int .i64 L[k].col] 34)) hlt hsk ((Below.refl _ _).alloc (Nat.le_refl _) _))
        clear hsk
        go_wp2
        go_round
        case rel => exact ⟨k + 1, M, hlt, by go_num, HST.out⟩
        case measure => simp [intOf]; omega
      · have HSK := Lib.hid hsk
        have hcs : (L[k].t.kind == 4) = false ∨ ((L[k].t.kind == 4) = true ∧ L[k].t.kind = 4 ∧ X.toList.isEmpty = false) := by
          by_cases hk4 : L[k].t.kind = 4
          · refine .inr ⟨by rw [hk4]; rfl, hk4, ?_⟩
            rw [empty_data, decide_eq_false_iff_not, ← size_data, HXD.out]
            intro e
            exact hsk ⟨hk4, List.eq_nil_of_length_eq_zero e⟩
          · exact .inl (beq_eq_false_iff_ne.2 hk4)
        clear hsk
        have HSL := Lib.hid (tokLit (wr.alloc (.cells #[.int .i64 L[k].t.kind, .string N, .slice ca L[k].t.attrs.length cpa, .string X, .int .i64 L[k].off, .int .i64 L[k].line, .int .i64 L[k].col] 34)) 34 (wr.heap.size + 1) (by simp) L[k] HN.out HX.out HAV.out)
        have HONE : Hid (∀ y ∈ [L[k]], ∀ u ∈ tkC y, u.oneCell' = true) := by
          intro y hy
          simp at hy; subst hy
          exact tkC_one ⟨_, _, _, HAV.out⟩
        rcases hcs with e4 | ⟨e4, hk4, em⟩
        · have HNU : Hid (∀ u, M.getLast? = some u → ¬ (L[k].t.kind = 4 ∧ u.t.kind = 4)) := fun u _ hh => by
            have h1 := beq_eq_false_iff_ne.1 e4
            exact h1 hh.1
          go_wp2_with (at_builtin; refine wpList_append_slice _ rfl _ _ 23 rfl w.heap.size 34 Try.underlying23 info_token rfl (by decide) tkC_len (.slice oa M.length ocap) M rfl ((HJ.out.own.alloc _).alloc _) _ [L[k]] rfl HSL.out HONE.out (by simp only [List.length_cons, List.length_nil]; omega) (by decide) (by simp; omega) ?_; intro v8 w8 hown8 hgrow8 hloc8)
          have hb8 := ((HB.out.alloc hwr (.cells #[.int .i64 L[k].t.kind, .string N, .slice ca L[k].t.attrs.length cpa, .string X, .int .i64 L[k].off, .int .i64 L[k].line, .int .i64 L[k].col] 34)).alloc (by simp; omega) (.cells #[.int .i64 L[k].t.kind, .string N, .slice ca L[k].t.attrs.length cpa, .string X, .int .i64 L[k].off, .int .i64 L[k].line, .int .i64 L[k].col] 34)).grown hgrow8 (by simp; omega) (fun q hq => (HJ.out.own.lt q hq).1)
          have HST := Lib.hid (HJ.out.push hlt HA.out HSK.out HNU.out hown8 hb8)
          clear hown8 hgrow8 hloc8 hb8
          go_wp2
          go_round
          case rel => exact ⟨k + 1, M ++ [L[k]], hlt, by go_num, HST.out⟩
          case measure => simp [intOf]; omega
        · by_cases hMM : M = []
          · subst hMM
            have HNU : Hid (∀ u, ([] : List TkM).getLast? = some u → ¬ (L[k].t.kind = 4 ∧ u.t.kind = 4)) := fun u hu _ => by cases hu
            clear hk4
            go_wp2_with (at_builtin; refine wpList_append_slice _ rfl _ _ 23 rfl w.heap.size 34 Try.underlying23 info_token rfl (by decide) tkC_len (.slice oa 0 ocap) [] rfl ((HJ.out.own.alloc _).alloc _) _ [L[k]] rfl HSL.out HONE.out (by simp only [List.length_cons, List.length_nil]; omega) (by decide) (by simp; omega) ?_; intro v8 w8 hown8 hgrow8 hloc8)
            have hb8 := ((HB.out.alloc hwr (.cells #[.int .i64 L[k].t.kind, .string N, .slice ca L[k].t.attrs.length cpa, .string X, .int .i64 L[k].off, .int .i64 L[k].line, .int .i64 L[k].col] 34)).alloc (by simp; omega) (.cells #[.int .i64 L[k].t.kind, .string N, .slice ca L[k].t.attrs.length cpa, .string X, .int .i64 L[k].off, .int .i64 L[k].line, .int .i64 L[k].col] 34)).grown hgrow8 (by simp; omega) (fun q hq => (HJ.out.own.lt q hq).1)
            have HST := Lib.hid (HJ.out.push hlt HA.out HSK.out HNU.out hown8 hb8)
            clear hown8 hgrow8 hloc8 hb8
            go_wp2
            go_round
            case rel => exact ⟨k + 1, [] ++ [L[k]], hlt, by go_num, HST.out⟩
            case measure => simp [intOf]; omega
          · obtain ⟨m, hm⟩ : ∃ m, M.length = m + 1 := ⟨M.length - 1, by have := List.length_pos_iff.2 hMM; omega⟩
            clear hMM
            rw [hm]
            have hmlt : m < M.length := by omega
            rw [hm] at HJ hML
            have hks : M[m]? = some M[m] := List.getElem?_eq_getElem hmlt
            have how := HJ.out.own.alloc (.cells #[.int .i64 L[k].t.kind, .string N, .slice ca L[k].t.attrs.length cpa, .string X, .int .i64 L[k].off, .int .i64 L[k].line, .int .i64 L[k].col] 34)
            obtain ⟨g2, hoa, hg2a, hg2, hc3, hf3, hcs2, hst⟩ := own_store (j := 3) tkC_len how hks (by decide)
            subst hoa
            have q0 := hcs2 0 _ rfl
            have q3 := hcs2 3 _ rfl
            rw [Nat.add_zero] at q0
            have hut : M[m].t.text.length ≤ 1000000000 := by
              have h1 := HJ.out.txt _ (List.getElem_mem hmlt)
              have h2 := tksW_take (L.map (·.t)) k
              omega
            obtain ⟨U, hU⟩ : ∃ U : S, bs M[m].t.text = U := ⟨_, rfl⟩
            have hUs : U.size ≤ 1000000000 := by rw [← hU, bs_size]; exact hut
            rw [hU] at q3
            have HU := Lib.hid hU
            have HOW := Lib.hid how
            have HK4 := Lib.hid hk4
            have HM := Lib.hid hm
            have hmI : ¬ (m : Int) < 0 := by omega
            have hmI2 : (m : Int) < ((m + 1 : Nat) : Int) := by omega
            have HF3 := Lib.hid hf3
            clear hk4 hm how hks hc3 hcs2 hst hut hU hf3
            by_cases hu4 : M[m].t.kind = 4
            · have eu : (M[m].t.kind == 4) = true := by rw [hu4]; rfl
              have HU4 := Lib.hid hu4
              clear hu4
              go_wp2_with fail
              refine wp_world ?_
              intro W hW
              have hbx : Box W wr.heap.size [.int .i64 L[k].t.kind, .string N, .slice ca L[k].t.attrs.length cpa, .string X, .int .i64 L[k].off, .int .i64 L[k].line, .int .i64 L[k].col] := by rw [hW]; exact Box.new wr _ _ _ rfl
              have hOW := HOW.out
              have hf3 := HF3.out
              have hBW : Below w.heap.size w W := by rw [hW]; exact HB.out.alloc hwr _
              rw [← hW] at hOW q3 hf3 hg2
              clear hW q0
              have y3 := hbx.cell 3 _ rfl
              have ly := hbx.lt
              have HBW := Lib.hid hBW
              have HOW2 := Lib.hid hOW
              clear hbx hOW hBW d0 d1 d2 d3 d4 d5 d6
              have f1 : ¬ 9223372036854775807 < U.size + X.size := by omega
              have hmI3 : (m : Int) < (m : Int) + 1 := by omega
              have hmI5 : (0 : Int) ≤ (m : Int) ∧ (m : Int) < (m : Int) + 1 := by omega
              have hmI6 : (0 : Int) ≤ (m : Int) := by omega
              have hmI4 : m < m + 1 := Nat.lt_succ_self m
              have HST : Hid (JoinAt w (W.setCell ⟨g2, m * 7 + 3, none⟩ (.string (U ++ X))).drew L (k + 1) (.slice (some ⟨g2, 0, none⟩) (m + 1) ocap) (M.set m { M[m] with t := { M[m].t with text := M[m].t.text ++ L[k].t.text } })) := by
                have hks : M[m]? = some M[m] := List.getElem?_eq_getElem hmlt
                obtain ⟨g3, e3, -, -, -, -, -, hst⟩ := own_store (j := 3) tkC_len HOW2.out hks (by decide)
                simp only [Option.some.injEq, Addr.mk.injEq, and_true] at e3
                subst e3
                have ho := hst (.string (U ++ X)) { M[m] with t := { M[m].t with text := M[m].t.text ++ L[k].t.text } } (by
                  rw [← HU.out, ← HX.out, bs_append]; rfl)
                exact HJ.out.join hlt HM.out HK4.out (fun e => by
                  have h1 := HSK.out
                  exact h1 ⟨HK4.out, e⟩) HU4.out ho.drew ((HBW.out.setCell (p := ⟨g2, m * 7 + 3, none⟩) (by exact hg2a) _).drew)
              go_still_tail 10, (by kernel_rfl)
              change wpList _ _ _ _ _ W.drew
              clear hmI hmI2 hmI3 hmI5 hmI6 f1
              go_wp2
              go_round
              case rel => exact ⟨k + 1, _, hlt, by go_num, HST.out⟩
              case measure => simp [intOf]; omega
            · have eu : (M[m].t.kind == 4) = false := beq_eq_false_iff_ne.2 hu4
              have HNU : Hid (∀ u, M.getLast? = some u → ¬ (L[k].t.kind = 4 ∧ u.t.kind = 4)) := fun u hu hh => by
                have h1 : M.getLast? = some M[m] := by rw [List.getLast?_eq_getElem?, HM.out, Nat.add_sub_cancel, List.getElem?_eq_getElem hmlt]
                rw [h1] at hu
                cases hu
                exact hu4 hh.2
              clear hu4
              go_wp2_with (at_builtin; refine wpList_append_slice _ rfl _ _ 23 rfl w.heap.size 34 Try.underlying23 info_token rfl (by decide) tkC_len (.slice (some ⟨g2, 0, none⟩) (m + 1) ocap) M rfl ((HOW.out).alloc _) _ [L[k]] rfl HSL.out HONE.out (by have := HM.out; simp only [List.length_cons, List.length_nil]; omega) (by decide) (by simp; omega) ?_; intro v8 w8 hown8 hgrow8 hloc8)
              have hb8 := ((HB.out.alloc hwr (.cells #[.int .i64 L[k].t.kind, .string N, .slice ca L[k].t.attrs.length cpa, .string X, .int .i64 L[k].off, .int .i64 L[k].line, .int .i64 L[k].col] 34)).alloc (by simp; omega) (.cells #[.int .i64 L[k].t.kind, .string N, .slice ca L[k].t.attrs.length cpa, .string X, .int .i64 L[k].off, .int .i64 L[k].line, .int .i64 L[k].col] 34)).grown hgrow8 (by simp; omega) (fun q hq => (HJ.out.own.lt q hq).1)
              have HST := Lib.hid (HJ.out.push hlt HA.out HSK.out HNU.out hown8 hb8)
              clear hown8 hgrow8 hloc8 hb8
              go_wp2
              go_round
              case rel => exact ⟨k + 1, M ++ [L[k]], hlt, by go_num, HST.out⟩
              case measure => simp [intOf]; omega
    · obtain rfl : k = L.length := by omega
      have hi1 : ¬ (L.length : Int) < (L.length : Int) := by omega
      obtain ⟨oa, ocap, hov⟩ := HJ.out.own.shape
      subst hov
      have HR : Hid (TksOf wr (.slice oa M.length ocap) (joined (L.map (·.t)))) := by
        refine ⟨M, HJ.out.own.slice tkC_len, fun x hx => ?_, ?_⟩
        · exact (HJ.out.att x hx).below hB
        · have h1 := HJ.out.is
          rw [List.take_of_length_le (by simp)] at h1
          exact h1
      clear hB
      go_wp2
      go_ret
      exact ⟨_, rfl, HR.out, HB.out⟩

end Go.Proofs.Ytpchljiiappmnaa
