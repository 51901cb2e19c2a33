/- Walks of the document's right and May; the conditions stand in the theorems. -/
import Derived.Test.YtpchljiiappmnaaG39
import Derived.Test.YtpchljiiappmnaaG37
import Derived.Test.YtpchljiiappmnaaG23
import Derived.Deep.RegionHeld3
import Derived.Deep.DrawnRows
namespace Go.Proofs.Ytpchljiiappmnaa
open Go Go.RowKit

set_option maxRecDepth 100000 in
set_option maxHeartbeats 32000000 in
theorem right_any : ∀ (n : Nat) (t : Tr) (w : World) (av kv : Value), SizeOf.sizeOf t ≤ n → NodeOf w t av kv → FineT t →
    Calls Try.prog 67 #[nodeV t av kv] w (Says (RightT t) w)
  | 0, t, w, av, kv, hn, _, _ => by
    obtain ⟨n, l, k, x⟩ := t
    simp only [Tr.mk.sizeOf_spec] at hn
    omega
  | n + 1, t, w, av, kv, hn, ht, hf => by
    obtain ⟨ao, ac, ko, kc, rfl, rfl, hal, hkl⟩ := ht.shape
    have hac : t.attrs.length ≤ ac ∧ ac ≤ 9223372036854775807 := by
      obtain ⟨ao', ac', e, h1, h2, -⟩ := ht.att
      simp only [Value.slice.injEq] at e
      obtain ⟨-, -, rfl⟩ := e
      unfold maxLen at h2
      exact ⟨h1, by omega⟩
    obtain ⟨hac1, hac2⟩ := hac
    have HI : Hid (∀ k (hk : k < t.kids.length) (W' : World) (v1 v2 : Value), NodeOf W' t.kids[k] v1 v2 → Calls Try.prog 67 #[nodeV t.kids[k] v1 v2] W' (Says (RightT t.kids[k]) W')) := fun k hk W' v1 v2 h1 => right_any n _ W' v1 v2 (by have := kid_less hk; omega) h1 (hf.kids _ (List.getElem_mem hk))
    obtain ⟨N, hN⟩ : ∃ N : S, bs t.name = N := ⟨_, rfl⟩
    obtain ⟨X, hX⟩ : ∃ X : S, bs t.text = X := ⟨_, rfl⟩
    have HNM : Hid (∀ W, Calls Try.prog 101 #[.string N] W fun e w' => e = .returned (.bool (okName t.name)) ∧ W = w') := fun W => by have := refIsNm_any (bs t.name) W (by rw [bs_size]; have := hf.name; omega); rw [bs_data] at this; rw [← hN]; exact this
    have hXe : X.toList.isEmpty = t.text.isEmpty := by rw [empty_data, ← hX, bs_size]; cases t.text <;> simp
    have HRI : Hid (RightT t ↔ okName t.name = true ∧ t.text = [] ∧ (∀ k (h : k < t.attrs.length), OkAt t.attrs k h) ∧ ∀ k (h : k < t.kids.length), KidOk t k h) := by show _ ↔ _; rw [right_iff, goodAtts_iff]
    have HF := Lib.hid hf
    have HT := Lib.hid ht
    unfold nodeV
    rw [hN, hX]
    clear hN hX hn ht hf
    generalize hon : okName t.name = q1 at *
    clear hon
    have HBA : Hid (∀ o, Below w.heap.size w (w.alloc o)) := fun o => (Below.refl _ w).alloc (Nat.le_refl _) _
    cases q1 with
    | false =>
      go_enter Try.func67, Try.ntmps67
      go_wp2_with (go_at_call 101; refine (HNM.out _).mono ?_; rintro e w' ⟨rfl, rfl⟩)
      go_ret
      exact ⟨false, rfl, ⟨fun e => absurd e Bool.false_ne_true, fun e => by have := (HRI.out.1 e).1; cases this⟩, HBA.out _⟩
    | true =>
    by_cases h3 : t.text = []
    rotate_left
    · have hxe : X.toList.isEmpty = false := by rw [hXe]; simpa using h3
      have hxe2 : (!X.toList.isEmpty) = true := by rw [hxe]; rfl
      have H3 := Lib.hid h3
      clear h3 hXe
      go_enter Try.func67, Try.ntmps67
      go_wp2_with (go_at_call 101; refine (HNM.out _).mono ?_; rintro e w' ⟨rfl, rfl⟩)
      go_ret
      exact ⟨false, rfl, ⟨fun e => absurd e Bool.false_ne_true, fun e => absurd (HRI.out.1 e).2.1 H3.out⟩, HBA.out _⟩
    have hxe : X.toList.isEmpty = true := by rw [hXe, h3]; rfl
    have hxe2 : (!X.toList.isEmpty) = false := by rw [hxe]; rfl
    have HRJ : Hid (RightT t ↔ (∀ k (h : k < t.attrs.length), OkAt t.attrs k h) ∧ ∀ k (h : k < t.kids.length), KidOk t k h) := by
      show _ ↔ _
      rw [HRI.out]
      exact ⟨fun h => h.2.2, fun h => ⟨rfl, h3, h⟩⟩
    clear h3 hXe HRI
    go_enter Try.func67, Try.ntmps67
    go_wp2_with (go_at_call 101; refine (HNM.out _).mono ?_; rintro e w' ⟨rfl, rfl⟩)
    refine wp_world ?_
    intro W hW
    have hbW : Below w.heap.size w W := by rw [hW]; exact HBA.out _
    have hx0 : Box W w.heap.size [.string N, .slice ao t.attrs.length ac, .slice ko t.kids.length kc, .string X] := by rw [hW]; exact Box.new _ _ _ _ rfl
    have HW := Lib.hid hbW
    have HX := Lib.hid hx0
    have hWl := hx0.lt
    clear hW hbW hx0 hxe hxe2 HNM HBA
    go_loopw [3, 21] (fun _ i wr => ∃ k : Nat, k ≤ t.attrs.length ∧ i = .int .i64 k ∧ Hid (Below W.heap.size W wr ∧ ∀ q (h : q < t.attrs.length), q < k → OkAt t.attrs q h)) (fun _ i _ => t.attrs.length - (intOf i).toNat)
    case atStart => exact ⟨0, Nat.zero_le _, rfl, Below.refl _ _, fun q _ h => absurd h (Nat.not_lt_zero q)⟩
    case round =>
      obtain ⟨k, hk, rfl, HR⟩ := hrel
      have HBR := Lib.hid (HW.out.trans (HR.out.1.mono HW.out.size))
      have HXR := Lib.hid (HX.out.below HR.out.1 hWl)
      by_cases hlt : k < t.attrs.length
      · obtain ⟨g, o, rfl, hg, -, d0, d1⟩ := (HT.out.later HBR.out).atA k hlt
        have hki : (k : Int) < (t.attrs.length : Int) := by omega
        have hk0 : (0 : Int) ≤ (k : Int) := by omega
        have hkc : (k : Int) ≤ (ac : Int) := by omega
        obtain ⟨N1, hN1⟩ : ∃ N1 : S, bs t.attrs[k].1 = N1 := ⟨_, rfl⟩
        obtain ⟨V1, hV1⟩ : ∃ V1 : S, bs t.attrs[k].2 = V1 := ⟨_, rfl⟩
        have hz := HF.out.attrs _ (List.getElem_mem hlt)
        have HC2 : Hid (∀ W, Calls Try.prog 101 #[.string N1] W fun e w' => e = .returned (.bool (okName t.attrs[k].1)) ∧ W = w') := fun W => by have := refIsNm_any (bs t.attrs[k].1) W (by rw [bs_size]; omega); rw [bs_data] at this; rw [← hN1]; exact this
        have HC3 : Hid (∀ W, Calls Try.prog 102 #[.string V1] W fun e w' => e = .returned (.bool (okText t.attrs[k].2)) ∧ W = w') := fun W => by have := refPlain_any (bs t.attrs[k].2) W (by rw [bs_size]; omega); rw [bs_data] at this; rw [← hV1]; exact this
        have HOK : Hid (OkAt t.attrs k hlt ↔ ¬ hasN t.attrs[k].1 (t.attrs.take k) ∧ okName t.attrs[k].1 = true ∧ okText t.attrs[k].2 = true) := Iff.rfl
        have HBN := Lib.hid (fun o => HR.out.1.alloc HR.out.1.size o)
        have HB2 := Lib.hid (fun o => HBR.out.alloc HBR.out.size o)
        rw [hN1] at d0
        rw [hV1] at d1
        have HN1 := Lib.hid hN1
        clear hN1 hV1 hz
        generalize okName t.attrs[k].1 = q2 at *
        generalize okText t.attrs[k].2 = q3 at *
        cases q2 with
        | false =>
          go_wp2_with (go_at_call 101; refine (HC2.out _).mono ?_; rintro e w' ⟨rfl, rfl⟩)
          go_ret
          exact ⟨false, rfl, ⟨fun e => absurd e Bool.false_ne_true, fun e => by have := (HOK.out.1 ((HRJ.out.1 e).1 k hlt)).2.1; cases this⟩, HB2.out _⟩
        | true =>
        cases q3 with
        | false =>
          go_wp2_with (first | (go_at_call 101; refine (HC2.out _).mono ?_; rintro e w' ⟨rfl, rfl⟩) | (go_at_call 102; refine (HC3.out _).mono ?_; rintro e w' ⟨rfl, rfl⟩))
          go_ret
          exact ⟨false, rfl, ⟨fun e => absurd e Bool.false_ne_true, fun e => by have := (HOK.out.1 ((HRJ.out.1 e).1 k hlt)).2.2; cases this⟩, HB2.out _⟩
        | true =>
          have b1 := HXR.out.cell 1 _ rfl
          have bl := HXR.out.lt
          go_wp2_with (first | (go_at_call 101; refine (HC2.out _).mono ?_; rintro e w' ⟨rfl, rfl⟩) | (go_at_call 102; refine (HC3.out _).mono ?_; rintro e w' ⟨rfl, rfl⟩))
          refine wp_world ?_
          intro wo hwo
          have hbo : Below W.heap.size W wo := by rw [hwo]; exact HBN.out _
          have hxo : Box wo wr.heap.size [.string N1, .string V1] := by rw [hwo]; exact Box.new _ _ _ _ rfl
          have HBO := Lib.hid hbo
          have HXO := Lib.hid hxo
          have hol := hxo.lt
          clear hwo hbo hxo b1 bl d0 d1 HC2 HC3 HBN HB2
          obtain ⟨wq, hwq⟩ : ∃ wq : World, wq = wr := ⟨_, rfl⟩
          subst hwq
          go_loopw [41] (fun i wr2 => ∃ j : Nat, j ≤ k ∧ i = .int .i64 j ∧ Hid (Below wo.heap.size wo wr2 ∧ ∀ q (h : q < t.attrs.length), q < j → (t.attrs[q]'h).1 ≠ (t.attrs[k]'hlt).1)) (fun i _ => k - (intOf i).toNat)
          case atStart => exact ⟨0, Nat.zero_le _, rfl, Below.refl _ _, fun q _ h => absurd h (Nat.not_lt_zero q)⟩
          case round =>
            obtain ⟨j, hj, rfl, HR2⟩ := hrel
            have HBW := Lib.hid (HW.out.trans ((HBO.out.trans (HR2.out.1.mono HBO.out.size)).mono HW.out.size))
            by_cases hjk : j < k
            · have hjl : j < t.attrs.length := by omega
              obtain ⟨g', o', ee, hg2, -, f0, f1⟩ := (HT.out.later HBW.out).atA j hjl
              simp only [Option.some.injEq, Addr.mk.injEq, and_true] at ee
              obtain ⟨rfl, rfl⟩ := ee
              have hx2 := HXO.out.below HR2.out.1 hol
              have a0 := hx2.cell 0 _ rfl
              have al := hx2.lt
              have hji : (j : Int) < (k : Int) := by omega
              have hE := bs_beq2 t.attrs[k].1 t.attrs[j].1
              rw [HN1.out] at hE
              have HBN := Lib.hid (fun o => HR2.out.1.alloc HR2.out.1.size o)
              have HB2 := Lib.hid (fun o => HBW.out.alloc HBW.out.size o)
              clear hx2
              by_cases he : t.attrs[k].1 = t.attrs[j].1
              · rw [decide_eq_true he] at hE
                have HH : Hid (hasN t.attrs[k].1 (t.attrs.take k)) := ⟨j, by rw [List.length_take]; omega, by rw [List.getElem_take]; exact he.symm⟩
                clear he
                go_wp2
                go_ret
                exact ⟨false, rfl, ⟨fun e => absurd e Bool.false_ne_true, fun e => absurd HH.out (HOK.out.1 ((HRJ.out.1 e).1 k hlt)).1⟩, HB2.out _⟩
              · rw [decide_eq_false he] at hE
                have HH := Lib.hid he
                clear he
                go_wp2
                go_roundw
                case rel => exact ⟨j + 1, hjk, by go_num, HBN.out _, fun q h1 h3 => by
                  rcases Nat.lt_succ_iff_lt_or_eq.1 h3 with h | rfl
                  · exact HR2.out.2 q h1 h
                  · exact fun e => HH.out e.symm⟩
                case measure => simp [intOf]; omega
            · obtain rfl : j = k := by omega
              have HOO : Hid (OkAt t.attrs j hlt) := HOK.out.2 ⟨fun ⟨q, h1, h2⟩ => by
                have hq : q < j := by rw [List.length_take] at h1; omega
                rw [List.getElem_take] at h2
                exact HR2.out.2 q (by omega) hq h2, by trivial, by trivial⟩
              have HB3 := Lib.hid (HBO.out.trans (HR2.out.1.mono HBO.out.size))
              go_wp2
              go_roundw
              case rel => exact ⟨j + 1, hlt, by go_num, HB3.out, fun q h1 h3 => by
                rcases Nat.lt_succ_iff_lt_or_eq.1 h3 with h | rfl
                · exact HR.out.2 q h1 h
                · exact HOO.out⟩
              case measure => simp [intOf]; omega
      · obtain rfl : k = t.attrs.length := by omega
        obtain ⟨wq, hwq⟩ : ∃ wq : World, wq = wr := ⟨_, rfl⟩
        subst hwq
        have HRK : Hid (RightT t ↔ ∀ k (h : k < t.kids.length), KidOk t k h) := by
          show _ ↔ _
          rw [HRJ.out]
          exact ⟨fun h => h.2, fun h => ⟨fun q h1 => HR.out.2 q h1 h1, h⟩⟩
        have b2 := HXR.out.cell 2 _ rfl
        have bl := HXR.out.lt
        clear HR HRJ HX HW hWl hk
        go_wp2
        go_loopw [7, 55] (fun _ i wr => ∃ k : Nat, k ≤ t.kids.length ∧ i = .int .i64 k ∧ Hid (Below wq.heap.size wq wr ∧ ∀ q (h : q < t.kids.length), q < k → KidOk t q h)) (fun _ i _ => t.kids.length - (intOf i).toNat)
        case atStart => exact ⟨0, Nat.zero_le _, rfl, Below.refl _ _, fun q _ h => absurd h (Nat.not_lt_zero q)⟩
        case round =>
          obtain ⟨k, hk, rfl, HR⟩ := hrel
          have HBW := Lib.hid (HBR.out.trans (HR.out.1.mono HBR.out.size))
          have HXX := Lib.hid (HXR.out.below HR.out.1 bl)
          clear b2
          by_cases hlt : k < t.kids.length
          · have hnk := HT.out.later HBW.out
            obtain ⟨g, o, r1, r2, s1, s2, rfl, hg, -, c0, c1, c2, c3, hn1⟩ := hnk.at k hlt
            have hki : (k : Int) < (t.kids.length : Int) := by omega
            have hk0 : (0 : Int) ≤ (k : Int) := by omega
            obtain ⟨N2, hN2⟩ : ∃ N2 : S, bs t.kids[k].name = N2 := ⟨_, rfl⟩
            obtain ⟨X2, hX2⟩ : ∃ X2 : S, bs t.kids[k].text = X2 := ⟨_, rfl⟩
            have hne2 : N2.toList.isEmpty = t.kids[k].name.isEmpty := by rw [empty_data, ← hN2, bs_size]; cases t.kids[k].name <;> simp
            have HBN := Lib.hid (fun o => HR.out.1.alloc HR.out.1.size o)
            have HB2 := Lib.hid (fun o => HBW.out.alloc HBW.out.size o)
            have HFK := Lib.hid (HF.out.kids _ (List.getElem_mem hlt))
            rw [hN2] at c0
            rw [hX2] at c3
            by_cases hne : t.kids[k].name = []
            · have he : N2.toList.isEmpty = true := by rw [hne2, hne]; rfl
              have he2 : (!N2.toList.isEmpty) = false := by rw [he]; rfl
              have hKO : KidOk t k hlt ↔ (t.kids[k].attrs.length = 0 ∧ t.kids[k].kids.length = 0 ∧ t.kids[k].text ≠ [] ∧ okText t.kids[k].text = true) ∧ ∀ j (hj : j + 1 = k), (t.kids[j]'(by omega)).name ≠ [] := by
                unfold KidOk LeafOk
                rw [List.length_eq_zero_iff, List.length_eq_zero_iff]
                exact ⟨fun h => by
                  rcases h with h | h
                  · exact absurd hne h.1
                  · exact h.2, fun h => .inr ⟨hne, h⟩⟩
              have HKO := Lib.hid hKO
              have HTX : Hid (∀ W, Calls Try.prog 102 #[.string X2] W fun e w' => e = .returned (.bool (okText t.kids[k].text)) ∧ W = w') := fun W => by have := refPlain_any (bs t.kids[k].text) W (by rw [bs_size]; have := HFK.out.text; omega); rw [bs_data] at this; rw [← hX2]; exact this
              have hXe : X2.toList.isEmpty = t.kids[k].text.isEmpty := by rw [empty_data, ← hX2, bs_size]; cases t.kids[k].text <;> simp
              have HKP : Hid (∀ (j : Nat) (hj : j + 1 = k), wr.cell? ⟨g, o + j * 4, none⟩ = some (.string (bs (t.kids[j]'(by omega)).name))) := fun j hj => by
                obtain ⟨g', o', _, _, _, _, e1, -, -, d0, -⟩ := hnk.at j (by omega)
                simp only [Option.some.injEq, Addr.mk.injEq, and_true] at e1
                obtain ⟨rfl, rfl⟩ := e1
                exact d0
              have FALSE : Hid (¬ KidOk t k hlt → ∀ o1, Says (RightT t) w (.returned (.bool false)) (wr.alloc o1)) := fun h o1 => ⟨false, rfl, ⟨fun e => absurd e Bool.false_ne_true, fun e => absurd (HRK.out.1 e k hlt) h⟩, HB2.out _⟩
              clear hnk hn1 hN2 hX2 hne2 hKO hne HB2
              generalize hal2 : t.kids[k].attrs.length = la at *
              generalize hkl2 : t.kids[k].kids.length = lk at *
              generalize okText t.kids[k].text = q at *
              clear hal2 hkl2
              by_cases h1 : la = 0
              rotate_left
              · have hI : (0 : Int) < (la : Int) := by omega
                have HNO := Lib.hid (FALSE.out (fun h => h1 (HKO.out.1 h).1.1))
                clear h1
                go_wp2_with fail
                go_ret
                exact HNO.out _
              have hI1 : ¬ (0 : Int) < (la : Int) := by omega
              by_cases h2 : lk = 0
              rotate_left
              · have hI : (0 : Int) < (lk : Int) := by omega
                have HNO := Lib.hid (FALSE.out (fun h => h2 (HKO.out.1 h).1.2.1))
                clear h2 h1
                go_wp2_with fail
                go_ret
                exact HNO.out _
              have hI2 : ¬ (0 : Int) < (lk : Int) := by omega
              by_cases h3 : t.kids[k].text = []
              · have hxe : X2.toList.isEmpty = true := by rw [hXe, h3]; rfl
                have HNO := Lib.hid (FALSE.out (fun h => (HKO.out.1 h).1.2.2.1 h3))
                clear h3 h2 h1 hXe
                go_wp2_with fail
                go_ret
                exact HNO.out _
              have hxe : X2.toList.isEmpty = false := by rw [hXe]; simpa using h3
              cases q with
              | false =>
                have HNO := Lib.hid (FALSE.out (fun h => by have := (HKO.out.1 h).1.2.2.2; cases this))
                clear h3 h2 h1 hXe
                go_wp2_with (go_at_call 102; refine (HTX.out _).mono ?_; rintro e w' ⟨rfl, rfl⟩)
                go_ret
                exact HNO.out _
              | true =>
                have HKQ : Hid (KidOk t k hlt ↔ ∀ j (hj : j + 1 = k), (t.kids[j]'(by omega)).name ≠ []) := by
                  show _ ↔ _
                  rw [HKO.out]
                  exact ⟨fun h => h.2, fun h => ⟨⟨h1, h2, h3, by trivial⟩, h⟩⟩
                clear h3 h2 h1 hXe HKO
                by_cases hk1 : k = 0
                · have hkI : ¬ (0 : Int) < (k : Int) := by omega
                  have HOK : Hid (KidOk t k hlt) := HKQ.out.2 fun j hj => by omega
                  clear hk1
                  go_wp2_with (go_at_call 102; refine (HTX.out _).mono ?_; rintro e w' ⟨rfl, rfl⟩)
                  go_roundw
                  case rel => exact ⟨k + 1, hlt, by go_num, HBN.out _, fun q h1 h3 => by
                    rcases Nat.lt_succ_iff_lt_or_eq.1 h3 with h | rfl
                    · exact HR.out.2 q h1 h
                    · exact HOK.out⟩
                  case measure => simp [intOf]; omega
                · obtain ⟨j, hj⟩ : ∃ j, j + 1 = k := ⟨k - 1, by omega⟩
                  have hkI : (0 : Int) < (k : Int) := by omega
                  have hjw : (k : Int) - 1 = (j : Int) := by omega
                  have hjI : (j : Int) < (t.kids.length : Int) := by omega
                  have hj0 : (0 : Int) ≤ (j : Int) := by omega
                  have b2 := HXX.out.cell 2 _ rfl
                  have bl := HXX.out.lt
                  have kp := HKP.out j hj
                  have hjt : j < t.kids.length := by omega
                  obtain ⟨N3, hN3⟩ : ∃ N3 : S, bs (t.kids[j]'hjt).name = N3 := ⟨_, rfl⟩
                  have hne3 : N3.toList.isEmpty = (t.kids[j]'hjt).name.isEmpty := by rw [empty_data, ← hN3, bs_size]; cases (t.kids[j]'hjt).name <;> simp
                  rw [hN3] at kp
                  have HJ := Lib.hid hj
                  by_cases hpe : (t.kids[j]'hjt).name = []
                  · have he3 : N3.toList.isEmpty = true := by rw [hne3, hpe]; rfl
                    have HNO := Lib.hid (FALSE.out (fun h => HKQ.out.1 h j HJ.out hpe))
                    clear hN3 hne3 hpe hj hk1
                    go_wp2_with (go_at_call 102; refine (HTX.out _).mono ?_; rintro e w' ⟨rfl, rfl⟩)
                    go_ret
                    exact HNO.out _
                  · have he3 : N3.toList.isEmpty = false := by rw [hne3]; simpa using hpe
                    have HOK : Hid (KidOk t k hlt) := HKQ.out.2 fun i hi => by
                      have : i = j := by omega
                      subst this
                      exact hpe
                    clear hN3 hne3 hpe hj hk1
                    go_wp2_with (go_at_call 102; refine (HTX.out _).mono ?_; rintro e w' ⟨rfl, rfl⟩)
                    go_roundw
                    case rel => exact ⟨k + 1, hlt, by go_num, HBN.out _, fun q h1 h3 => by
                      rcases Nat.lt_succ_iff_lt_or_eq.1 h3 with h | rfl
                      · exact HR.out.2 q h1 h
                      · exact HOK.out⟩
                    case measure => simp [intOf]; omega
            · have he : N2.toList.isEmpty = false := by rw [hne2]; simpa using hne
              have he2 : (!N2.toList.isEmpty) = true := by rw [he]; rfl
              have HC : Hid (∀ o1, Calls Try.prog 67 #[.agg #[.string N2, .slice r1 t.kids[k].attrs.length r2, .slice s1 t.kids[k].kids.length s2, .string X2]] (wr.alloc o1) (Says (RightT t.kids[k]) (wr.alloc o1))) := fun o1 => by
                have := HI.out k hlt (wr.alloc o1) _ _ (hn1.later ((Below.refl _ _).alloc (Nat.le_refl _) _))
                unfold nodeV at this
                rw [hN2, hX2] at this
                exact this
              have HNE := Lib.hid hne
              clear hnk hn1 hN2 hX2 hne2 hne
              go_wp2_with fail
              refine (HC.out _).mono ?_
              rintro e w4 ⟨z, rfl, hz4, hb4⟩
              have HBN4 := Lib.hid ((HBN.out _).trans (hb4.mono (HBN.out _).size))
              have HBW4 := Lib.hid ((HB2.out _).trans (hb4.mono (HB2.out _).size))
              have HZ4 := Lib.hid hz4
              clear hb4 hz4 HC c0 c1 c2 c3 HBN HB2
              cases z with
              | false =>
                go_wp2
                go_ret
                refine ⟨false, rfl, ⟨fun e => absurd e Bool.false_ne_true, fun e => ?_⟩, HBW4.out⟩
                have h1 := HZ4.out.2 (by
                  rcases HRK.out.1 e k hlt with h | h
                  · exact h.2
                  · exact absurd h.1 HNE.out)
                cases h1
              | true =>
                have HRT : Hid (RightT t.kids[k]) := HZ4.out.1 (by trivial)
                go_wp2
                go_roundw
                case rel => exact ⟨k + 1, hlt, by go_num, HBN4.out, fun q h1 h3 => by
                  rcases Nat.lt_succ_iff_lt_or_eq.1 h3 with h | rfl
                  · exact HR.out.2 q h1 h
                  · exact .inl ⟨HNE.out, HRT.out⟩⟩
                case measure => simp [intOf]; omega
          · obtain rfl : k = t.kids.length := by omega
            go_wp2
            go_ret
            exact ⟨true, rfl, ⟨fun _ => HRK.out.2 fun q h1 => HR.out.2 q h1 h1, fun _ => rfl⟩, HBW.out⟩

set_option maxRecDepth 100000 in
set_option maxHeartbeats 8000000 in
theorem refMay_any (t : Tr) (w : World) (av kv : Value) (h : NodeOf w t av kv) (hf : FineT t) (hc : t.cnt ≤ 1000000) :
    Calls Try.prog 38 #[nodeV t av kv] w (Says (MayT t) w) := by
  obtain ⟨ao, ac, ko, kc, rfl, rfl, -, -⟩ := h.shape
  have HT := Lib.hid h
  obtain ⟨q, hq⟩ := bool_of (RightT t)
  have HR : Hid (∀ W, Below w.heap.size w W → Calls Try.prog 67 #[.agg #[.string (bs t.name), .slice ao t.attrs.length ac, .slice ko t.kids.length kc, .string (bs t.text)]] W fun e w' => e = .returned (.bool q) ∧ Below W.heap.size W w') := fun W hb => (right_any _ t W _ _ (Nat.le_refl _) (h.later hb) hf).mono fun e w' h => h.qb hq
  have HCN : Hid (∀ W, Below w.heap.size w W → Calls Try.prog 41 #[.agg #[.string (bs t.name), .slice ao t.attrs.length ac, .slice ko t.kids.length kc, .string (bs t.text)]] W fun e w' => e = .returned (.int .i64 t.cnt) ∧ Below W.heap.size W w') := fun W hb => refCount_any _ t W _ _ (Nat.le_refl _) (h.later hb) hc
  have HDP : Hid (∀ W, Below w.heap.size w W → Calls Try.prog 40 #[.agg #[.string (bs t.name), .slice ao t.attrs.length ac, .slice ko t.kids.length kc, .string (bs t.text)]] W fun e w' => e = .returned (.int .i64 t.dep) ∧ Below W.heap.size W w') := fun W hb => refDepth_any _ t W _ _ (Nat.le_refl _) (h.later hb) hc
  have HMT : Hid (MayT t ↔ q = true ∧ t.cnt ≤ 4096 ∧ t.dep ≤ 64) := by show _ ↔ _; unfold MayT; rw [hq]
  have HBA : Hid (∀ o, Below w.heap.size w (w.alloc o)) := fun o => (Below.refl _ w).alloc (Nat.le_refl _) _
  have hxn : ∀ o, o = Obj.cells #[.string (bs t.name), .slice ao t.attrs.length ac, .slice ko t.kids.length kc, .string (bs t.text)] 54 → Box (w.alloc o) w.heap.size [.string (bs t.name), .slice ao t.attrs.length ac, .slice ko t.kids.length kc, .string (bs t.text)] := fun o e => by subst e; exact Box.new _ _ _ _ rfl
  have HXN := Lib.hid (hxn _ rfl)
  clear h hf hq hxn hc
  unfold nodeV
  generalize t.cnt = cn at *
  generalize t.dep = dp at *
  go_enter Try.func38, Try.ntmps38
  go_wp2_with fail
  refine (HR.out _ (HBA.out _)).mono ?_
  rintro e w1 ⟨rfl, hb1⟩
  have HB1 := Lib.hid ((HBA.out _).trans (hb1.mono (HBA.out _).size))
  have hx1 := HXN.out.below hb1 HXN.out.lt
  have HX1 := Lib.hid hx1
  clear hb1 HXN HR HBA
  cases q with
  | false =>
    clear hx1
    go_wp2
    go_ret
    exact ⟨false, rfl, ⟨fun e => absurd e Bool.false_ne_true, fun e => by have := (HMT.out.1 e).1; cases this⟩, HB1.out⟩
  | true =>
    have a0 := hx1.cell 0 _ rfl
    have a1 := hx1.cell 1 _ rfl
    have a2 := hx1.cell 2 _ rfl
    have a3 := hx1.cell 3 _ rfl
    have al := hx1.lt
    clear hx1
    go_wp2_with fail
    refine (HCN.out _ HB1.out).mono ?_
    rintro e w2 ⟨rfl, hb2⟩
    have HB2 := Lib.hid (HB1.out.trans (hb2.mono HB1.out.size))
    have hx2 := HX1.out.below hb2 al
    clear hb2 HX1 HB1 HCN a0 a1 a2 a3 al
    by_cases hc : cn ≤ 4096
    rotate_left
    · have hI : ¬ (cn : Int) ≤ 4096 := by omega
      have HNO : Hid (¬ MayT t) := fun h => hc (HMT.out.1 h).2.1
      clear hx2 hc
      go_wp2
      go_ret
      exact ⟨false, by first | rfl | (simp [hI]), ⟨fun e => absurd e Bool.false_ne_true, fun e => absurd e HNO.out⟩, HB2.out⟩
    · have hI : (cn : Int) ≤ 4096 := by omega
      have a0 := hx2.cell 0 _ rfl
      have a1 := hx2.cell 1 _ rfl
      have a2 := hx2.cell 2 _ rfl
      have a3 := hx2.cell 3 _ rfl
      have al := hx2.lt
      clear hx2
      go_wp2_with fail
      refine (HDP.out _ HB2.out).mono ?_
      rintro e w3 ⟨rfl, hb3⟩
      have HB3 := Lib.hid (HB2.out.trans (hb3.mono HB2.out.size))
      clear hb3 HB2 HDP a0 a1 a2 a3 al
      by_cases hd : dp ≤ 64
      · have hJ : (dp : Int) ≤ 64 := by omega
        have HYES : Hid (MayT t) := HMT.out.2 ⟨by trivial, hc, hd⟩
        go_wp2
        go_ret
        exact ⟨true, by first | rfl | (simp [hJ]), ⟨fun _ => HYES.out, fun _ => rfl⟩, HB3.out⟩
      · have hJ : ¬ (dp : Int) ≤ 64 := by omega
        have HNO : Hid (¬ MayT t) := fun h => hd (HMT.out.1 h).2.2
        go_wp2
        go_ret
        exact ⟨false, by first | rfl | (simp [hJ]), ⟨fun e => absurd e Bool.false_ne_true, fun e => absurd e HNO.out⟩, HB3.out⟩

end Go.Proofs.Ytpchljiiappmnaa

/- The law TreePrints, walked; the conditions stand in the theorem. -/
namespace Go.Proofs.Ytpchljiiappmnaa
open Go Go.RowKit
attribute [local go_sem ↓] Go.wp_at_zero Go.wp_at_succ

theorem attsW_light : ∀ (l : List At2), (∀ a ∈ l, a.1.length ≤ 1000 ∧ a.2.length ≤ 1000) → attsW l ≤ l.length * 7004
  | [], _ => by simp [attsW]
  | a :: l, h => by
    have h1 := attsW_light l (fun b hb => h b (List.mem_cons_of_mem _ hb))
    have h2 := h a (List.mem_cons_self ..)
    rw [show attsW (a :: l) = (a.1.length + 6 * a.2.length + 4) + attsW l by simp [attsW], List.length_cons, Nat.succ_mul]
    omega
mutual
theorem wt_light : ∀ t : Tr, LightT t → t.wt ≤ t.cnt * 150000
  | .mk n a ks x, h => by
    cases h with
    | mk hn hx hal ha hkl hk =>
      have h1 := attsW_light a ha
      have h2 := wtL_light ks hk
      rw [Tr.wt, Tr.cnt, Nat.add_mul]
      omega
theorem wtL_light : ∀ l : List Tr, (∀ k ∈ l, LightT k) → Tr.wtL l ≤ Tr.cntL l * 150000
  | [], _ => by simp [Tr.wtL]
  | t :: l, h => by
    have h1 := wt_light t (h t (List.mem_cons_self ..))
    have h2 := wtL_light l (fun k hk => h k (List.mem_cons_of_mem _ hk))
    rw [Tr.wtL, Tr.cntL, Nat.add_mul]
    omega
end
theorem below_of_drew2 {w w' : World} (h : Below w.drew.heap.size w.drew w') : Below w.heap.size w w' := ⟨h.os, h.tape, h.output, h.size, fun k hk => h.block k hk⟩

set_option maxRecDepth 100000 in
set_option maxHeartbeats 16000000 in
theorem treePrintsLaw_any (t : Tr) (mx : Int) (w : World) (av kv : Value) (ht : NodeOf w t av kv) (hm : w.cell? ⟨0, 0, none⟩ = some (.int .i64 mx)) :
    Calls Try.prog 18 #[nodeV t av kv] w fun e w' => e = .returned (.bool true) ∧ Below w.heap.size w w' := by
  have hw0 : 0 < w.heap.size := World.block_lt_of_cell? w _ hm
  obtain ⟨ao, ac, ko, kc, rfl, rfl, -, -⟩ := ht.shape
  have HLV : Hid (∀ W, Below w.heap.size w W → Calls Try.prog 36 #[] W fun e w' => e = .returned (.bool true) ∧ Below W.heap.size W w') := fun W h => treeLives_any mx W ((h.cell (by exact hw0)).trans hm)
  have HLA : Hid (∀ W, Below w.heap.size w W → Calls Try.prog 37 #[.agg #[.string (bs t.name), .slice ao t.attrs.length ac, .slice ko t.kids.length kc, .string (bs t.text)]] W fun e w' => Below W.heap.size W w' ∧ ∃ b : Bool, e = .returned (.bool b) ∧ (b = true → LightT t ∧ t.cnt ≤ 300)) := fun W h => lightTop_any t W _ _ (ht.later h)
  have HT := Lib.hid ht
  clear ht hm
  unfold nodeV
  go_enter Try.func18, Try.ntmps18
  go_wp2_with fail
  refine Calls.world ?_
  intro W0 hW0
  have hb0 : Below w.heap.size w W0 := by rw [hW0]; exact (Below.refl _ w).alloc (Nat.le_refl _) _
  have xa : Box W0 w.heap.size [.string (bs t.name), .slice ao t.attrs.length ac, .slice ko t.kids.length kc, .string (bs t.text)] := by rw [hW0]; exact Box.new w _ _ _ rfl
  clear hW0
  refine (HLA.out _ hb0).mono ?_
  rintro e w2 ⟨hb1, z, rfl, hz⟩
  have hB2 := hb0.trans (hb1.mono hb0.size)
  have xa2 := xa.below hb1 xa.lt
  have HZ := Lib.hid hz
  clear hz hb0 hb1 xa HLA
  cases z with
  | false =>
    have HB1 := Lib.hid hB2
    clear xa2 hB2
    go_wp2_with fail
    refine (HLV.out _ HB1.out).mono ?_
    rintro e w3 ⟨rfl, hb3⟩
    have HB3 := Lib.hid (HB1.out.trans (hb3.mono HB1.out.size))
    clear hb3
    go_wp2
    go_ret
    exact ⟨rfl, HB3.out⟩
  | true =>
    obtain ⟨hli, hcn⟩ := HZ.out (by trivial)
    have hwt := wt_light t hli
    have hwt2 : t.wt ≤ 900000000 := by omega
    have hfi := hli.fine
    have hc6 : t.cnt ≤ 1000000 := by omega
    obtain ⟨q, hq⟩ := bool_of (MayT t)
    have HP1 : Hid (∀ V, Below w.heap.size w V → Calls Try.prog 47 #[.agg #[.string (bs t.name), .slice ao t.attrs.length ac, .slice ko t.kids.length kc, .string (bs t.text)]] V fun e w' => e = .returned (.string (bs t.pr)) ∧ Below V.heap.size V w') := fun V h => treePrint_any t V _ _ (HT.out.later h) hwt2
    have HP2 : Hid (∀ V, Below w.heap.size w V → Calls Try.prog 49 #[.agg #[.string (bs t.name), .slice ao t.attrs.length ac, .slice ko t.kids.length kc, .string (bs t.text)]] V fun e w' => e = .returned (.string (bs t.pr)) ∧ Below V.heap.size V w') := fun V h => refPr_any t V _ _ (HT.out.later h) hwt2
    have HM1 : Hid (∀ V, Below w.heap.size w V → Calls Try.prog 48 #[.agg #[.string (bs t.name), .slice ao t.attrs.length ac, .slice ko t.kids.length kc, .string (bs t.text)]] V fun e w' => e = .returned (.bool q) ∧ Below V.heap.size V w') := fun V h => (treeMay_any t V _ _ (HT.out.later h) hfi).mono fun e w' h => h.qb hq
    have HM2 : Hid (∀ V, Below w.heap.size w V → Calls Try.prog 38 #[.agg #[.string (bs t.name), .slice ao t.attrs.length ac, .slice ko t.kids.length kc, .string (bs t.text)]] V fun e w' => e = .returned (.bool q) ∧ Below V.heap.size V w') := fun V h => (refMay_any t V _ _ (HT.out.later h) hfi hc6).mono fun e w' h => h.qb hq
    have HC1 : Hid (∀ V, Below w.heap.size w V → Calls Try.prog 50 #[.agg #[.string (bs t.name), .slice ao t.attrs.length ac, .slice ko t.kids.length kc, .string (bs t.text)]] V fun e w' => e = .returned (.int .i64 t.cnt) ∧ Below V.heap.size V w') := fun V h => treeCount_any _ t V _ _ (Nat.le_refl _) (HT.out.later h) hc6
    have HC2 : Hid (∀ V, Below w.heap.size w V → Calls Try.prog 41 #[.agg #[.string (bs t.name), .slice ao t.attrs.length ac, .slice ko t.kids.length kc, .string (bs t.text)]] V fun e w' => e = .returned (.int .i64 t.cnt) ∧ Below V.heap.size V w') := fun V h => refCount_any _ t V _ _ (Nat.le_refl _) (HT.out.later h) hc6
    have y0 := xa2.cell 0 _ rfl
    have y1 := xa2.cell 1 _ rfl
    have y2 := xa2.cell 2 _ rfl
    have y3 := xa2.cell 3 _ rfl
    have yl := xa2.lt
    have HBD : Hid (Below w.heap.size w w2.drew) := belowN hB2 1
    have HBB := Lib.hid hB2
    clear xa2 hB2 hli hcn hwt hwt2 hfi hc6 hq HZ HT
    generalize (bs t.pr : S) = Y at *
    generalize t.cnt = cn at *
    have hyy : (Y.toList == Y.toList) = true := by simp
    have hcc : ((cn : Int) == (cn : Int)) = true := by simp
    cases q
    all_goals
      go_wp2
      go_region_held3 (fun w' => ∀ b o, b < w2.heap.size → w'.cell? ⟨b, o, none⟩ = w2.cell? ⟨b, o, none⟩) (first | (intro b o h; rfl) | exact fun b o h => hb3.cell h | exact fun b o h => hb4.cell h | exact fun b o h => hb5.cell h | exact fun b o h => hb6.cell h | exact fun b o h => hb7.cell h | exact fun b o h => hb8.cell h | exact fun b o h => hb9.cell h) (first | (have _x := hb8; go_at_call 36; refine (HLV.out _ hB8).mono ?_; rintro e w9 ⟨rfl, hb9'⟩; have hb9 := hb8.trans (hb9'.mono hb8.size); have hB9 := hB8.trans (hb9'.mono hB8.size)) | (have _x := hb7; go_at_call 41; refine (HC2.out _ hB7).mono ?_; rintro e w8 ⟨rfl, hb8'⟩; have hb8 := hb7.trans (hb8'.mono hb7.size); have hB8 := hB7.trans (hb8'.mono hB7.size)) | (have _x := hb6; go_at_call 50; refine (HC1.out _ hB6).mono ?_; rintro e w7 ⟨rfl, hb7'⟩; have hb7 := hb6.trans (hb7'.mono hb6.size); have hB7 := hB6.trans (hb7'.mono hB6.size)) | (have _x := hb5; go_at_call 38; refine (HM2.out _ hB5).mono ?_; rintro e w6 ⟨rfl, hb6'⟩; have hb6 := hb5.trans (hb6'.mono hb5.size); have hB6 := hB5.trans (hb6'.mono hB5.size)) | (have _x := hb4; go_at_call 48; refine (HM1.out _ hB4).mono ?_; rintro e w5 ⟨rfl, hb5'⟩; have hb5 := hb4.trans (hb5'.mono hb4.size); have hB5 := hB4.trans (hb5'.mono hB4.size)) | (have _x := hb3; go_at_call 49; refine (HP2.out _ hB3).mono ?_; rintro e w4 ⟨rfl, hb4'⟩; have hb4 := hb3.trans (hb4'.mono hb3.size); have hB4 := hB3.trans (hb4'.mono hB3.size)) | (go_at_call 47; refine (HP1.out _ HBD.out).mono ?_; rintro e w3 ⟨rfl, hb3'⟩; have hb3 := below_of_drew2 hb3'; have hB3 := HBB.out.trans (hb3.mono HBB.out.size)))
      go_wp2
      go_ret
      exact ⟨rfl, hB9⟩

end Go.Proofs.Ytpchljiiappmnaa
