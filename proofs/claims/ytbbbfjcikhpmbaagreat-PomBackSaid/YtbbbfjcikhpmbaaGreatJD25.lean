/- Walks of the document's right and May; the conditions stand in the theorems. -/
import Derived.Test.YtbbbfjcikhpmbaaGreatJD24
import Derived.Test.YtbbbfjcikhpmbaaGreatJD09
import Derived.Test.YtbbbfjcikhpmbaaGreatJD21
import Derived.Test.YtbbbfjcikhpmbaaGreatJD23
import Derived.Deep.CutBlock

namespace Go.Proofs.YtbbbfjcikhpmbaaGreat
open Go Go.RowKit

set_option maxRecDepth 100000 in
set_option maxHeartbeats 32000000 in
theorem right_any : ∀ (n : Nat) (t : Tr) (w : World) (av kv : Value), SizeOf.sizeOf t ≤ n → NodeOf w t av kv → FineT t →
    Calls Tryz.prog 72 #[nodeV t av kv] w (Says (RightT t) w)
 | 0, t, w, av, kv, hn, _, _ => by
  obtain ⟨n, l, k, x⟩ := t
  simp only [Tr.mk.sizeOf_spec] at hn
  omega
 | n + 1, t, w, av, kv, hn, ht, hf => by
  obtain ⟨ao, ac, ko, kc, rfl, rfl, hal, hkl⟩ := ht.shape
  have hac : t.attrs.length ≤ ac ∧ ac ≤ 9223372036854775807 := by
   obtain ⟨ao', ac', e, h1, h2, -⟩ := ht.att
   simp only [Value.slice.injEq] at e
   obtain ⟨-, -, rfl⟩ := e
   unfold maxLen at h2
   exact ⟨h1, by omega⟩
  obtain ⟨hac1, hac2⟩ := hac
  have HI : Hid (∀ k (hk : k < t.kids.length) (W' : World) (v1 v2 : Value), NodeOf W' t.kids[k] v1 v2 → Calls Tryz.prog 72 #[nodeV t.kids[k] v1 v2] W' (Says (RightT t.kids[k]) W')) := fun k hk W' v1 v2 h1 => right_any n _ W' v1 v2 (by have := kid_less hk; omega) h1 (hf.kids _ (List.getElem_mem hk))
  obtain ⟨N, hN⟩ : ∃ N : S, bs t.name = N := ⟨_, rfl⟩
  obtain ⟨X, hX⟩ : ∃ X : S, bs t.text = X := ⟨_, rfl⟩
  have HNM : Hid (∀ W, Calls Tryz.prog 62 #[.string N] W fun e w' => e = .returned (.bool (okName t.name)) ∧ W = w') := fun W => by have := refIsNm_any (bs t.name) W (by rw [bs_size]; have := hf.name; omega); rw [bs_data] at this; rw [← hN]; exact this
  have hXe : X.toList.isEmpty = t.text.isEmpty := by rw [empty_data, ← hX, bs_size]; cases t.text <;> simp
  have HRI : Hid (RightT t ↔ okName t.name = true ∧ t.text = [] ∧ (∀ k (h : k < t.attrs.length), OkAt t.attrs k h) ∧ ∀ k (h : k < t.kids.length), KidOk t k h) := by show _ ↔ _; rw [right_iff, goodAtts_iff]
  have HF := Lib.hid hf
  have HT := Lib.hid ht
  unfold nodeV
  rw [hN, hX]
  clear hN hX hn ht hf
  generalize hon : okName t.name = q1 at *
  clear hon
  have HBA : Hid (∀ o, Below w.heap.size w (w.alloc o)) := fun o => (Below.refl _ w).alloc (Nat.le_refl _) _
  cases q1 with
  | false =>
   go_enter Tryz.func72, Tryz.ntmps72
   go_wp2_with (go_at_call 62; refine (HNM.out _).mono ?_; rintro e w' ⟨rfl, rfl⟩)
   go_ret
   exact ⟨false, rfl, ⟨fun e => absurd e Bool.false_ne_true, fun e => by have := (HRI.out.1 e).1; cases this⟩, HBA.out _⟩
  | true =>
  by_cases h3 : t.text = []
  rotate_left
  · have hxe : X.toList.isEmpty = false := by rw [hXe]; simpa using h3
    have hxe2 : (!X.toList.isEmpty) = true := by rw [hxe]; rfl
    have H3 := Lib.hid h3
    clear h3 hXe
    go_enter Tryz.func72, Tryz.ntmps72
    go_wp2_with (go_at_call 62; refine (HNM.out _).mono ?_; rintro e w' ⟨rfl, rfl⟩)
    go_ret
    exact ⟨false, rfl, ⟨fun e => absurd e Bool.false_ne_true, fun e => absurd (HRI.out.1 e).2.1 H3.out⟩, HBA.out _⟩
  have hxe : X.toList.isEmpty = true := by rw [hXe, h3]; rfl
  have hxe2 : (!X.toList.isEmpty) = false := by rw [hxe]; rfl
  have HRJ : Hid (RightT t ↔ (∀ k (h : k < t.attrs.length), OkAt t.attrs k h) ∧ ∀ k (h : k < t.kids.length), KidOk t k h) := by
   show _ ↔ _
   rw [HRI.out]
   exact ⟨fun h => h.2.2, fun h => ⟨rfl, h3, h⟩⟩
  clear h3 hXe HRI
  go_enter Tryz.func72, Tryz.ntmps72
  go_wp2_with (go_at_call 62; refine (HNM.out _).mono ?_; rintro e w' ⟨rfl, rfl⟩)
  refine wp_world ?_
  intro W hW
  have hbW : Below w.heap.size w W := by rw [hW]; exact HBA.out _
  have hx0 : Box W w.heap.size [.string N, .slice ao t.attrs.length ac, .slice ko t.kids.length kc, .string X] := by rw [hW]; exact Box.new _ _ _ _ rfl
  have HW := Lib.hid hbW
  have HX := Lib.hid hx0
  have hWl := hx0.lt
  clear hW hbW hx0 hxe hxe2 HNM HBA
  go_loopw [3, 21] (fun _ i wr => ∃ k : Nat, k ≤ t.attrs.length ∧ i = .int .i64 k ∧ Hid (Below W.heap.size W wr ∧ ∀ q (h : q < t.attrs.length), q < k → OkAt t.attrs q h)) (fun _ i _ => t.attrs.length - (intOf i).toNat)
  case atStart => exact ⟨0, Nat.zero_le _, rfl, Below.refl _ _, fun q _ h => absurd h (Nat.not_lt_zero q)⟩
  case round =>
   obtain ⟨k, hk, rfl, HR⟩ := hrel
   have HBR := Lib.hid (HW.out.trans (HR.out.1.mono HW.out.size))
   have HXR := Lib.hid (HX.out.below HR.out.1 hWl)
   by_cases hlt : k < t.attrs.length
   · obtain ⟨g, o, rfl, hg, -, d0, d1⟩ := (HT.out.later HBR.out).atA k hlt
     have hki : (k : Int) < (t.attrs.length : Int) := by omega
     have hk0 : (0 : Int) ≤ (k : Int) := by omega
     have hkc : (k : Int) ≤ (ac : Int) := by omega
     obtain ⟨N1, hN1⟩ : ∃ N1 : S, bs t.attrs[k].1 = N1 := ⟨_, rfl⟩
     obtain ⟨V1, hV1⟩ : ∃ V1 : S, bs t.attrs[k].2 = V1 := ⟨_, rfl⟩
     have hz := HF.out.attrs _ (List.getElem_mem hlt)
     have HC2 : Hid (∀ W, Calls Tryz.prog 62 #[.string N1] W fun e w' => e = .returned (.bool (okName t.attrs[k].1)) ∧ W = w') := fun W => by have := refIsNm_any (bs t.attrs[k].1) W (by rw [bs_size]; omega); rw [bs_data] at this; rw [← hN1]; exact this
     have HC3 : Hid (∀ W, Calls Tryz.prog 105 #[.string V1] W fun e w' => e = .returned (.bool (okText t.attrs[k].2)) ∧ W = w') := fun W => by have := refPlain_any (bs t.attrs[k].2) W (by rw [bs_size]; omega); rw [bs_data] at this; rw [← hV1]; exact this
     have HOK : Hid (OkAt t.attrs k hlt ↔ ¬ hasAtt t.attrs[k].1 (t.attrs.take k) ∧ okName t.attrs[k].1 = true ∧ okText t.attrs[k].2 = true) := Iff.rfl
     have HBN := Lib.hid (fun o => HR.out.1.alloc HR.out.1.size o)
     have HB2 := Lib.hid (fun o => HBR.out.alloc HBR.out.size o)
     rw [hN1] at d0
     rw [hV1] at d1
     have HN1 := Lib.hid hN1
     clear hN1 hV1 hz
     generalize okName t.attrs[k].1 = q2 at *
     generalize okText t.attrs[k].2 = q3 at *
     cases q2 with
     | false =>
      go_wp2_with (go_at_call 62; refine (HC2.out _).mono ?_; rintro e w' ⟨rfl, rfl⟩)
      go_ret
      exact ⟨false, rfl, ⟨fun e => absurd e Bool.false_ne_true, fun e => by have := (HOK.out.1 ((HRJ.out.1 e).1 k hlt)).2.1; cases this⟩, HB2.out _⟩
     | true =>
     cases q3 with
     | false =>
      go_wp2_with (first | (go_at_call 62; refine (HC2.out _).mono ?_; rintro e w' ⟨rfl, rfl⟩) | (go_at_call 105; refine (HC3.out _).mono ?_; rintro e w' ⟨rfl, rfl⟩))
      go_ret
      exact ⟨false, rfl, ⟨fun e => absurd e Bool.false_ne_true, fun e => by have := (HOK.out.1 ((HRJ.out.1 e).1 k hlt)).2.2; cases this⟩, HB2.out _⟩
     | true =>
      have b1 := HXR.out.cell 1 _ rfl
      have bl := HXR.out.lt
      go_wp2_with (first | (go_at_call 62; refine (HC2.out _).mono ?_; rintro e w' ⟨rfl, rfl⟩) | (go_at_call 105; refine (HC3.out _).mono ?_; rintro e w' ⟨rfl, rfl⟩))
      refine wp_world ?_
      intro wo hwo
      have hbo : Below W.heap.size W wo := by rw [hwo]; exact HBN.out _
      have hxo : Box wo wr.heap.size [.string N1, .string V1] := by rw [hwo]; exact Box.new _ _ _ _ rfl
      have HBO := Lib.hid hbo
      have HXO := Lib.hid hxo
      have hol := hxo.lt
      clear hwo hbo hxo b1 bl d0 d1 HC2 HC3 HBN HB2
      obtain ⟨wq, hwq⟩ : ∃ wq : World, wq = wr := ⟨_, rfl⟩
      subst hwq
      go_loopw [41] (fun i wr2 => ∃ j : Nat, j ≤ k ∧ i = .int .i64 j ∧ Hid (Below wo.heap.size wo wr2 ∧ ∀ q (h : q < t.attrs.length), q < j → (t.attrs[q]'h).1 ≠ (t.attrs[k]'hlt).1)) (fun i _ => k - (intOf i).toNat)
      case atStart => exact ⟨0, Nat.zero_le _, rfl, Below.refl _ _, fun q _ h => absurd h (Nat.not_lt_zero q)⟩
      case round =>
       obtain ⟨j, hj, rfl, HR2⟩ := hrel
       have HBW := Lib.hid (HW.out.trans ((HBO.out.trans (HR2.out.1.mono HBO.out.size)).mono HW.out.size))
       by_cases hjk : j < k
       · have hjl : j < t.attrs.length := by omega
         obtain ⟨g', o', ee, hg2, -, f0, f1⟩ := (HT.out.later HBW.out).atA j hjl
         simp only [Option.some.injEq, Addr.mk.injEq, and_true] at ee
         obtain ⟨rfl, rfl⟩ := ee
         have hx2 := HXO.out.below HR2.out.1 hol
         have a0 := hx2.cell 0 _ rfl
         have al := hx2.lt
         have hji : (j : Int) < (k : Int) := by omega
         have hE := bs_beq2 t.attrs[k].1 t.attrs[j].1
         rw [HN1.out] at hE
         have HBN := Lib.hid (fun o => HR2.out.1.alloc HR2.out.1.size o)
         have HB2 := Lib.hid (fun o => HBW.out.alloc HBW.out.size o)
         clear hx2
         by_cases he : t.attrs[k].1 = t.attrs[j].1
         · rw [decide_eq_true he] at hE
           have HH : Hid (hasAtt t.attrs[k].1 (t.attrs.take k)) := ⟨j, by rw [List.length_take]; omega, by rw [List.getElem_take]; exact he.symm⟩
           clear he
           go_wp2
           go_ret
           exact ⟨false, rfl, ⟨fun e => absurd e Bool.false_ne_true, fun e => absurd HH.out (HOK.out.1 ((HRJ.out.1 e).1 k hlt)).1⟩, HB2.out _⟩
         · rw [decide_eq_false he] at hE
           have HH := Lib.hid he
           clear he
           go_wp2
           go_roundw
           case rel => exact ⟨j + 1, hjk, by go_num, HBN.out _, fun q h1 h3 => by
            rcases Nat.lt_succ_iff_lt_or_eq.1 h3 with h | rfl
            · exact HR2.out.2 q h1 h
            · exact fun e => HH.out e.symm⟩
           case measure => simp [intOf]; omega
       · obtain rfl : j = k := by omega
         have HOO : Hid (OkAt t.attrs j hlt) := HOK.out.2 ⟨fun ⟨q, h1, h2⟩ => by
          have hq : q < j := by rw [List.length_take] at h1; omega
          rw [List.getElem_take] at h2
          exact HR2.out.2 q (by omega) hq h2, by trivial, by trivial⟩
         have HB3 := Lib.hid (HBO.out.trans (HR2.out.1.mono HBO.out.size))
         go_wp2
         go_roundw
         case rel => exact ⟨j + 1, hlt, by go_num, HB3.out, fun q h1 h3 => by
          rcases Nat.lt_succ_iff_lt_or_eq.1 h3 with h | rfl
          · exact HR.out.2 q h1 h
          · exact HOO.out⟩
         case measure => simp [intOf]; omega
   · obtain rfl : k = t.attrs.length := by omega
     obtain ⟨wq, hwq⟩ : ∃ wq : World, wq = wr := ⟨_, rfl⟩
     subst hwq
     have HRK : Hid (RightT t ↔ ∀ k (h : k < t.kids.length), KidOk t k h) := by
      show _ ↔ _
      rw [HRJ.out]
      exact ⟨fun h => h.2, fun h => ⟨fun q h1 => HR.out.2 q h1 h1, h⟩⟩
     have b2 := HXR.out.cell 2 _ rfl
     have bl := HXR.out.lt
     clear HR HRJ HX HW hWl hk
     go_wp2
     go_loopw [7, 55] (fun _ i wr => ∃ k : Nat, k ≤ t.kids.length ∧ i = .int .i64 k ∧ Hid (Below wq.heap.size wq wr ∧ ∀ q (h : q < t.kids.length), q < k → KidOk t q h)) (fun _ i _ => t.kids.length - (intOf i).toNat)
     case atStart => exact ⟨0, Nat.zero_le _, rfl, Below.refl _ _, fun q _ h => absurd h (Nat.not_lt_zero q)⟩
     case round =>
      obtain ⟨k, hk, rfl, HR⟩ := hrel
      have HBW := Lib.hid (HBR.out.trans (HR.out.1.mono HBR.out.size))
      have HXX := Lib.hid (HXR.out.below HR.out.1 bl)
      clear b2
      by_cases hlt : k < t.kids.length
      · have hnk := HT.out.later HBW.out
        obtain ⟨g, o, r1, r2, s1, s2, rfl, hg, -, c0, c1, c2, c3, hn1⟩ := hnk.at k hlt
        have hki : (k : Int) < (t.kids.length : Int) := by omega
        have hk0 : (0 : Int) ≤ (k : Int) := by omega
        obtain ⟨N2, hN2⟩ : ∃ N2 : S, bs t.kids[k].name = N2 := ⟨_, rfl⟩
        obtain ⟨X2, hX2⟩ : ∃ X2 : S, bs t.kids[k].text = X2 := ⟨_, rfl⟩
        have hne2 : N2.toList.isEmpty = t.kids[k].name.isEmpty := by rw [empty_data, ← hN2, bs_size]; cases t.kids[k].name <;> simp
        have HBN := Lib.hid (fun o => HR.out.1.alloc HR.out.1.size o)
        have HB2 := Lib.hid (fun o => HBW.out.alloc HBW.out.size o)
        have HFK := Lib.hid (HF.out.kids _ (List.getElem_mem hlt))
        rw [hN2] at c0
        rw [hX2] at c3
        by_cases hne : t.kids[k].name = []
        · have he : N2.toList.isEmpty = true := by rw [hne2, hne]; rfl
          have he2 : (!N2.toList.isEmpty) = false := by rw [he]; rfl
          have hKO : KidOk t k hlt ↔ (t.kids[k].attrs.length = 0 ∧ t.kids[k].kids.length = 0 ∧ t.kids[k].text ≠ [] ∧ okText t.kids[k].text = true) ∧ ∀ j (hj : j + 1 = k), (t.kids[j]'(by omega)).name ≠ [] := by
           unfold KidOk LeafOk
           rw [List.length_eq_zero_iff, List.length_eq_zero_iff]
           exact ⟨fun h => by
            rcases h with h | h
            · exact absurd hne h.1
            · exact h.2, fun h => .inr ⟨hne, h⟩⟩
          have HKO := Lib.hid hKO
          have HTX : Hid (∀ W, Calls Tryz.prog 105 #[.string X2] W fun e w' => e = .returned (.bool (okText t.kids[k].text)) ∧ W = w') := fun W => by have := refPlain_any (bs t.kids[k].text) W (by rw [bs_size]; have := HFK.out.text; omega); rw [bs_data] at this; rw [← hX2]; exact this
          have hXe : X2.toList.isEmpty = t.kids[k].text.isEmpty := by rw [empty_data, ← hX2, bs_size]; cases t.kids[k].text <;> simp
          have HKP : Hid (∀ (j : Nat) (hj : j + 1 = k), wr.cell? ⟨g, o + j * 4, none⟩ = some (.string (bs (t.kids[j]'(by omega)).name))) := fun j hj => by
           obtain ⟨g', o', _, _, _, _, e1, -, -, d0, -⟩ := hnk.at j (by omega)
           simp only [Option.some.injEq, Addr.mk.injEq, and_true] at e1
           obtain ⟨rfl, rfl⟩ := e1
           exact d0
          have FALSE : Hid (¬ KidOk t k hlt → ∀ o1, Says (RightT t) w (.returned (.bool false)) (wr.alloc o1)) := fun h o1 => ⟨false, rfl, ⟨fun e => absurd e Bool.false_ne_true, fun e => absurd (HRK.out.1 e k hlt) h⟩, HB2.out _⟩
          clear hnk hn1 hN2 hX2 hne2 hKO hne HB2
          generalize hal2 : t.kids[k].attrs.length = la at *
          generalize hkl2 : t.kids[k].kids.length = lk at *
          generalize okText t.kids[k].text = q at *
          clear hal2 hkl2
          by_cases h1 : la = 0
          rotate_left
          · have hI : (0 : Int) < (la : Int) := by omega
            have HNO := Lib.hid (FALSE.out (fun h => h1 (HKO.out.1 h).1.1))
            clear h1
            go_wp2_with fail
            go_ret
            exact HNO.out _
          have hI1 : ¬ (0 : Int) < (la : Int) := by omega
          by_cases h2 : lk = 0
          rotate_left
          · have hI : (0 : Int) < (lk : Int) := by omega
            have HNO := Lib.hid (FALSE.out (fun h => h2 (HKO.out.1 h).1.2.1))
            clear h2 h1
            go_wp2_with fail
            go_ret
            exact HNO.out _
          have hI2 : ¬ (0 : Int) < (lk : Int) := by omega
          by_cases h3 : t.kids[k].text = []
          · have hxe : X2.toList.isEmpty = true := by rw [hXe, h3]; rfl
            have HNO := Lib.hid (FALSE.out (fun h => (HKO.out.1 h).1.2.2.1 h3))
            clear h3 h2 h1 hXe
            go_wp2_with fail
            go_ret
            exact HNO.out _
          have hxe : X2.toList.isEmpty = false := by rw [hXe]; simpa using h3
          cases q with
          | false =>
           have HNO := Lib.hid (FALSE.out (fun h => by have := (HKO.out.1 h).1.2.2.2; cases this))
           clear h3 h2 h1 hXe
           go_wp2_with (go_at_call 105; refine (HTX.out _).mono ?_; rintro e w' ⟨rfl, rfl⟩)
           go_ret
           exact HNO.out _
          | true =>
           have HKQ : Hid (KidOk t k hlt ↔ ∀ j (hj : j + 1 = k), (t.kids[j]'(by omega)).name ≠ []) := by
            show _ ↔ _
            rw [HKO.out]
            exact ⟨fun h => h.2, fun h => ⟨⟨h1, h2, h3, by trivial⟩, h⟩⟩
           clear h3 h2 h1 hXe HKO
           by_cases hk1 : k = 0
           · have hkI : ¬ (0 : Int) < (k : Int) := by omega
             have HOK : Hid (KidOk t k hlt) := HKQ.out.2 fun j hj => by omega
             clear hk1
             go_wp2_with (go_at_call 105; refine (HTX.out _).mono ?_; rintro e w' ⟨rfl, rfl⟩)
             go_roundw
             case rel => exact ⟨k + 1, hlt, by go_num, HBN.out _, fun q h1 h3 => by
              rcases Nat.lt_succ_iff_lt_or_eq.1 h3 with h | rfl
              · exact HR.out.2 q h1 h
              · exact HOK.out⟩
             case measure => simp [intOf]; omega
           · obtain ⟨j, hj⟩ : ∃ j, j + 1 = k := ⟨k - 1, by omega⟩
             have hkI : (0 : Int) < (k : Int) := by omega
             have hjw : (k : Int) - 1 = (j : Int) := by omega
             have hjI : (j : Int) < (t.kids.length : Int) := by omega
             have hj0 : (0 : Int) ≤ (j : Int) := by omega
             have b2 := HXX.out.cell 2 _ rfl
             have bl := HXX.out.lt
             have kp := HKP.out j hj
             have hjt : j < t.kids.length := by omega
             obtain ⟨N3, hN3⟩ : ∃ N3 : S, bs (t.kids[j]'hjt).name = N3 := ⟨_, rfl⟩
             have hne3 : N3.toList.isEmpty = (t.kids[j]'hjt).name.isEmpty := by rw [empty_data, ← hN3, bs_size]; cases (t.kids[j]'hjt).name <;> simp
             rw [hN3] at kp
             have HJ := Lib.hid hj
             by_cases hpe : (t.kids[j]'hjt).name = []
             · have he3 : N3.toList.isEmpty = true := by rw [hne3, hpe]; rfl
               have HNO := Lib.hid (FALSE.out (fun h => HKQ.out.1 h j HJ.out hpe))
               clear hN3 hne3 hpe hj hk1
               go_wp2_with (go_at_call 105; refine (HTX.out _).mono ?_; rintro e w' ⟨rfl, rfl⟩)
               go_ret
               exact HNO.out _
             · have he3 : N3.toList.isEmpty = false := by rw [hne3]; simpa using hpe
               have HOK : Hid (KidOk t k hlt) := HKQ.out.2 fun i hi => by
                have : i = j := by omega
                subst this
                exact hpe
               clear hN3 hne3 hpe hj hk1
               go_wp2_with (go_at_call 105; refine (HTX.out _).mono ?_; rintro e w' ⟨rfl, rfl⟩)
               go_roundw
               case rel => exact ⟨k + 1, hlt, by go_num, HBN.out _, fun q h1 h3 => by
                rcases Nat.lt_succ_iff_lt_or_eq.1 h3 with h | rfl
                · exact HR.out.2 q h1 h
                · exact HOK.out⟩
               case measure => simp [intOf]; omega
        · have he : N2.toList.isEmpty = false := by rw [hne2]; simpa using hne
          have he2 : (!N2.toList.isEmpty) = true := by rw [he]; rfl
          have HC : Hid (∀ o1, Calls Tryz.prog 72 #[.agg #[.string N2, .slice r1 t.kids[k].attrs.length r2, .slice s1 t.kids[k].kids.length s2, .string X2]] (wr.alloc o1) (Says (RightT t.kids[k]) (wr.alloc o1))) := fun o1 => by
           have := HI.out k hlt (wr.alloc o1) _ _ (hn1.later ((Below.refl _ _).alloc (Nat.le_refl _) _))
           unfold nodeV at this
           rw [hN2, hX2] at this
           exact this
          have HNE := Lib.hid hne
          clear hnk hn1 hN2 hX2 hne2 hne
          go_wp2_with fail
          refine (HC.out _).mono ?_
          rintro e w4 ⟨z, rfl, hz4, hb4⟩
          have HBN4 := Lib.hid ((HBN.out _).trans (hb4.mono (HBN.out _).size))
          have HBW4 := Lib.hid ((HB2.out _).trans (hb4.mono (HB2.out _).size))
          have HZ4 := Lib.hid hz4
          clear hb4 hz4 HC c0 c1 c2 c3 HBN HB2
          cases z with
          | false =>
           go_wp2
           go_ret
           refine ⟨false, rfl, ⟨fun e => absurd e Bool.false_ne_true, fun e => ?_⟩, HBW4.out⟩
           have h1 := HZ4.out.2 (by
            rcases HRK.out.1 e k hlt with h | h
            · exact h.2
            · exact absurd h.1 HNE.out)
           cases h1
          | true =>
           have HRT : Hid (RightT t.kids[k]) := HZ4.out.1 (by trivial)
           go_wp2
           go_roundw
           case rel => exact ⟨k + 1, hlt, by go_num, HBN4.out, fun q h1 h3 => by
            rcases Nat.lt_succ_iff_lt_or_eq.1 h3 with h | rfl
            · exact HR.out.2 q h1 h
            · exact .inl ⟨HNE.out, HRT.out⟩⟩
           case measure => simp [intOf]; omega
      · obtain rfl : k = t.kids.length := by omega
        go_wp2
        go_ret
        exact ⟨true, rfl, ⟨fun _ => HRK.out.2 fun q h1 => HR.out.2 q h1 h1, fun _ => rfl⟩, HBW.out⟩
set_option maxRecDepth 100000 in
set_option maxHeartbeats 8000000 in
theorem refMay_any (t : Tr) (w : World) (av kv : Value) (h : NodeOf w t av kv) (hf : FineT t) (hc : t.cnt ≤ 1000000) :
    Calls Tryz.prog 26 #[nodeV t av kv] w (Says (MayT t) w) := by
 obtain ⟨ao, ac, ko, kc, rfl, rfl, -, -⟩ := h.shape
 have HT := Lib.hid h
 obtain ⟨q, hq⟩ := bool_of (RightT t)
 have HR : Hid (∀ W, Below w.heap.size w W → Calls Tryz.prog 72 #[.agg #[.string (bs t.name), .slice ao t.attrs.length ac, .slice ko t.kids.length kc, .string (bs t.text)]] W fun e w' => e = .returned (.bool q) ∧ Below W.heap.size W w') := fun W hb => (right_any _ t W _ _ (Nat.le_refl _) (h.later hb) hf).mono fun e w' h => h.qb hq
 have HCN : Hid (∀ W, Below w.heap.size w W → Calls Tryz.prog 73 #[.agg #[.string (bs t.name), .slice ao t.attrs.length ac, .slice ko t.kids.length kc, .string (bs t.text)]] W fun e w' => e = .returned (.int .i64 t.cnt) ∧ Below W.heap.size W w') := fun W hb => refCount_any _ t W _ _ (Nat.le_refl _) (h.later hb) hc
 have HDP : Hid (∀ W, Below w.heap.size w W → Calls Tryz.prog 74 #[.agg #[.string (bs t.name), .slice ao t.attrs.length ac, .slice ko t.kids.length kc, .string (bs t.text)]] W fun e w' => e = .returned (.int .i64 t.dep) ∧ Below W.heap.size W w') := fun W hb => refDepth_any _ t W _ _ (Nat.le_refl _) (h.later hb) hc
 have HMT : Hid (MayT t ↔ q = true ∧ t.cnt ≤ 4096 ∧ t.dep ≤ 64) := by show _ ↔ _; unfold MayT; rw [hq]
 have HBA : Hid (∀ o, Below w.heap.size w (w.alloc o)) := fun o => (Below.refl _ w).alloc (Nat.le_refl _) _
 have hxn : ∀ o, o = Obj.cells #[.string (bs t.name), .slice ao t.attrs.length ac, .slice ko t.kids.length kc, .string (bs t.text)] 25 → Box (w.alloc o) w.heap.size [.string (bs t.name), .slice ao t.attrs.length ac, .slice ko t.kids.length kc, .string (bs t.text)] := fun o e => by subst e; exact Box.new _ _ _ _ rfl
 have HXN := Lib.hid (hxn _ rfl)
 clear h hf hq hxn hc
 unfold nodeV
 generalize t.cnt = cn at *
 generalize t.dep = dp at *
 go_enter Tryz.func26, Tryz.ntmps26
 go_wp2_with fail
 refine (HR.out _ (HBA.out _)).mono ?_
 rintro e w1 ⟨rfl, hb1⟩
 have HB1 := Lib.hid ((HBA.out _).trans (hb1.mono (HBA.out _).size))
 have hx1 := HXN.out.below hb1 HXN.out.lt
 have HX1 := Lib.hid hx1
 clear hb1 HXN HR HBA
 cases q with
 | false =>
  clear hx1
  go_wp2
  go_ret
  exact ⟨false, rfl, ⟨fun e => absurd e Bool.false_ne_true, fun e => by have := (HMT.out.1 e).1; cases this⟩, HB1.out⟩
 | true =>
  obtain ⟨a0, a1, a2, a3⟩ := bxc4 hx1
  have al := hx1.lt
  clear hx1
  go_wp2_with fail
  refine (HCN.out _ HB1.out).mono ?_
  rintro e w2 ⟨rfl, hb2⟩
  have HB2 := Lib.hid (HB1.out.trans (hb2.mono HB1.out.size))
  have hx2 := HX1.out.below hb2 al
  clear hb2 HX1 HB1 HCN a0 a1 a2 a3 al
  by_cases hc : cn ≤ 4096
  rotate_left
  · have hI : ¬ (cn : Int) ≤ 4096 := by omega
    have HNO : Hid (¬ MayT t) := fun h => hc (HMT.out.1 h).2.1
    clear hx2 hc
    go_wp2
    go_ret
    exact ⟨false, by first | rfl | (simp [hI]), ⟨fun e => absurd e Bool.false_ne_true, fun e => absurd e HNO.out⟩, HB2.out⟩
  · have hI : (cn : Int) ≤ 4096 := by omega
    obtain ⟨a0, a1, a2, a3⟩ := bxc4 hx2
    have al := hx2.lt
    clear hx2
    go_wp2_with fail
    refine (HDP.out _ HB2.out).mono ?_
    rintro e w3 ⟨rfl, hb3⟩
    have HB3 := Lib.hid (HB2.out.trans (hb3.mono HB2.out.size))
    clear hb3 HB2 HDP a0 a1 a2 a3 al
    by_cases hd : dp ≤ 64
    · have hJ : (dp : Int) ≤ 64 := by omega
      have HYES : Hid (MayT t) := HMT.out.2 ⟨by trivial, hc, hd⟩
      go_wp2
      go_ret
      exact ⟨true, by first | rfl | (simp [hJ]), ⟨fun _ => HYES.out, fun _ => rfl⟩, HB3.out⟩
    · have hJ : ¬ (dp : Int) ≤ 64 := by omega
      have HNO : Hid (¬ MayT t) := fun h => hd (HMT.out.1 h).2.2
      go_wp2
      go_ret
      exact ⟨false, by first | rfl | (simp [hJ]), ⟨fun e => absurd e Bool.false_ne_true, fun e => absurd e HNO.out⟩, HB3.out⟩

end Go.Proofs.YtbbbfjcikhpmbaaGreat

/- A tree's printing is built as that tree; no program in sight. -/

namespace Go.Proofs.YtbbbfjcikhpmbaaGreat
open Go Go.RowKit

mutual
/-- A tree's tokens. -/
def toksT : Tr → List Tk
 | .mk n a ks x => if n.isEmpty then [⟨4, [], [], x⟩] else if ks.isEmpty then [⟨2, n, a, []⟩] else ⟨1, n, a, []⟩ :: (toksL ks ++ [⟨3, n, [], []⟩])
def toksL : List Tr → List Tk
 | [] => []
 | t :: l => toksT t ++ toksL l
end
mutual
theorem toks_print : ∀ t : Tr, printP (toksT t) = t.pr
 | .mk n a ks x => by
  rw [toksT, Tr.pr]
  by_cases hn : n.isEmpty = true
  · rw [if_pos hn, if_pos hn, printP_one]; rfl
  · rw [if_neg hn, if_neg hn]
    by_cases hk : ks.isEmpty = true
    · rw [if_pos hk, if_pos hk, printP_one]; rfl
    · rw [if_neg hk, if_neg hk]
      have h1 : printP (⟨1, n, a, []⟩ :: (toksL ks ++ [⟨3, n, [], []⟩])) = tokP ⟨1, n, a, []⟩ ++ printP (toksL ks ++ [⟨3, n, [], []⟩]) := rfl
      rw [h1, printP_app, toksL_print ks, printP_one]
      rfl
theorem toksL_print : ∀ l : List Tr, printP (toksL l) = Tr.prL l
 | [] => by rw [toksL, Tr.prL]; rfl
 | t :: l => by rw [toksL, Tr.prL, printP_app, toks_print t, toksL_print l]
end
/-- Kids that are as they should be, one behind the other. -/
def RightL : List Tr → Prop
 | [] => True
 | k :: l => (k.name ≠ [] → RightT k) ∧ (k.name = [] → LeafOk k ∧ ∀ u r, l = u :: r → u.name ≠ []) ∧ RightL l
theorem right_list : ∀ (ks : List Tr), (∀ k ∈ ks, k.name ≠ [] → RightT k) → (∀ k ∈ ks, k.name = [] → LeafOk k) → (∀ (k : Nat) (h : k + 1 < ks.length), (ks[k]'(Nat.lt_of_succ_lt h)).name = [] → (ks[k + 1]'h).name ≠ []) → RightL ks
 | [], _, _, _ => trivial
 | k :: l, h1, h2, h3 => by
  refine ⟨h1 k (List.mem_cons_self ..), fun hn => ⟨h2 k (List.mem_cons_self ..) hn, fun u r e => ?_⟩, right_list l (fun x hx => h1 x (List.mem_cons_of_mem _ hx)) (fun x hx => h2 x (List.mem_cons_of_mem _ hx)) (fun i hi hx => ?_)⟩
  · subst e
    exact h3 0 (by simp) hn
  · exact h3 (i + 1) (by simpa using hi) hx
theorem RightT.kidsL {t : Tr} (h : RightT t) : RightL t.kids := by
 cases h with
 | mk hn hx ha hk hl hs => exact right_list _ hk hl hs
theorem okName_good {n : Bs} (h : okName n = true) : nameLen n = n.length ∧ n ≠ [] := by
 unfold okName at h
 simp only [Bool.and_eq_true, Bool.not_eq_true', decide_eq_true_eq] at h
 exact ⟨h.2, fun e => by rw [e] at h; exact absurd h.1 (by decide)⟩
theorem goodAtts_a {l : List At2} (h : GoodAtts l) : (∀ a ∈ l, GoodA a) ∧ (l.map (·.1)).Nodup :=
 ⟨fun a ha => by
  obtain ⟨h1, h2⟩ := h.1 a ha
  obtain ⟨h3, h4⟩ := okName_good h1
  exact ⟨h3, h4, fun c hc => List.all_eq_true.1 h2 c hc⟩, h.2⟩
theorem toks_head {t : Tr} (h : t.name ≠ []) : ∃ u r, toksT t = u :: r ∧ u.kind ≠ 4 := by
 obtain ⟨n, a, ks, x⟩ := t
 have h' : n ≠ [] := h
 have hn : ¬ n.isEmpty = true := by simpa using h'
 rw [toksT, if_neg hn]
 split
 · exact ⟨_, _, rfl, show (2 : Int) ≠ 4 by decide⟩
 · exact ⟨_, _, rfl, show (1 : Int) ≠ 4 by decide⟩
mutual
theorem alt_t : ∀ (t : Tr), RightT t → ∀ (f : Bool) (rest : List Tk), Alt false rest → Alt f (toksT t ++ rest)
 | .mk n a ks x, h, f, rest, hr => by
  have hL := h.kidsL
  cases h with
  | mk hn hx ha hk hl hs =>
   obtain ⟨g1, g2⟩ := okName_good hn
   obtain ⟨g3, g4⟩ := goodAtts_a ha
   have hne : ¬ n.isEmpty = true := by simpa using g2
   rw [toksT, if_neg hne]
   by_cases hk0 : ks.isEmpty = true
   · rw [if_pos hk0]
     exact ⟨.op f 2 (.inr rfl) n a g1 g2 g3 g4, (fun h => absurd h (show ¬ (2 : Int) = 4 by decide)), hr⟩
   · rw [if_neg hk0]
     refine ⟨.op f 1 (.inl rfl) n a g1 g2 g3 g4, (fun h => absurd h (show ¬ (1 : Int) = 4 by decide)), ?_⟩
     show Alt false ((toksL ks ++ [⟨3, n, [], []⟩]) ++ rest)
     rw [List.append_assoc]
     exact alt_l ks hL _ ⟨.cl false n g1 g2, (fun h => absurd h (show ¬ (3 : Int) = 4 by decide)), hr⟩ (fun u r e => by cases e; exact (show (3 : Int) ≠ 4 by decide))
theorem alt_l : ∀ (ks : List Tr), RightL ks → ∀ (rest : List Tk), Alt false rest → (∀ u r, rest = u :: r → u.kind ≠ 4) → Alt false (toksL ks ++ rest)
 | [], _, rest, hr, _ => by rw [toksL]; exact hr
 | k :: l, h, rest, hr, h4 => by
  obtain ⟨h1, h2, h3⟩ := h
  have ih := alt_l l h3 rest hr h4
  rw [toksL, List.append_assoc]
  by_cases hn : k.name = []
  · obtain ⟨⟨e1, e2, e3, e4⟩, h5⟩ := h2 hn
    obtain ⟨kn, ka, kk, kx⟩ := k
    simp only [Tr.name, Tr.attrs, Tr.kids, Tr.text] at hn e1 e2 e3 e4
    subst hn e1 e2
    rw [toksT, if_pos (show ([] : Bs).isEmpty = true from rfl)]
    refine ⟨.tx false kx (fun c hc => List.all_eq_true.1 e4 c hc), fun _ => ⟨e3, fun u r e => ?_⟩, ih⟩
    cases l with
    | nil => rw [toksL] at e; exact h4 u r e
    | cons k2 l2 =>
     obtain ⟨u2, r2, e5, e6⟩ := toks_head (h5 k2 l2 rfl)
     rw [toksL, e5] at e
     cases e
     exact e6
  · exact alt_t k (h1 hn) false _ ih
end
/-- What the builder does with one element's tokens. -/
def frOf (t : Tr) : Fr := ⟨t.name, t.attrs, t.kids⟩
theorem frOf_tree {t : Tr} (h : t.text = []) : (frOf t).tree = t := by obtain ⟨n, a, ks, x⟩ := t; cases h; rfl
theorem map_cons_inv {acc : List (Tk × Bs)} {t : Tk} {l : List Tk} (h : acc.map (·.1) = t :: l) : ∃ p more, acc = (t, p) :: more ∧ more.map (·.1) = l := by
 cases acc with
 | nil => cases h
 | cons q more =>
  simp only [List.map_cons, List.cons.injEq] at h
  obtain ⟨h1, h2⟩ := h
  exact ⟨q.2, more, by rw [← h1], h2⟩
theorem map_app_inv {acc : List (Tk × Bs)} {l m : List Tk} (h : acc.map (·.1) = l ++ m) : ∃ a b, acc = a ++ b ∧ a.map (·.1) = l ∧ b.map (·.1) = m := by
 obtain ⟨a, b, h1, h2, h3⟩ := List.map_eq_append_iff.1 h
 exact ⟨a, b, h1, h2, h3⟩
mutual
theorem run_t : ∀ (t : Tr), RightT t → ∀ (st : BSt) (acc rest : List (Tk × Bs)), acc.map (·.1) = toksT t → st.root = none → st.stack.length + t.dep ≤ 64 → st.count + t.cnt ≤ 4096 →
    runB st (acc ++ rest) = runB (closeB (frOf t) st.stack none (st.count + t.cnt)) rest
 | .mk n a ks x, h, st, acc, rest, he, hr, hd, hc => by
  have hL := h.kidsL
  have hname := h
  cases hname with
  | mk hn hx ha hk hl hs =>
   obtain ⟨g1, g2⟩ := okName_good hn
   have hne : ¬ n.isEmpty = true := by simpa using g2
   rw [Tr.dep] at hd
   rw [Tr.cnt] at hc
   have hb : ∀ k : Int, beginB st ⟨k, n, a, []⟩ = .ok ⟨⟨n, a, []⟩ :: st.stack, none, st.count + 1, false⟩ := fun k => by
    unfold beginB
    rw [hr, if_neg (by simp), if_neg (by omega), if_neg (by omega)]
   rw [toksT, if_neg hne] at he
   by_cases hk0 : ks.isEmpty = true
   · rw [if_pos hk0] at he
     obtain ⟨p, more, rfl, hm⟩ := map_cons_inv he
     have : more = [] := by cases more with | nil => rfl | cons _ _ => cases hm
     subst this
     have hke : ks = [] := by simpa using hk0
     subst hke
     have hs : stepB st ⟨2, n, a, []⟩ = .ok (closeB ⟨n, a, []⟩ st.stack none (st.count + 1)) := by
      unfold stepB
      rw [if_neg (show ¬ (2 : Int) = 4 by decide), if_neg (show ¬ (2 : Int) = 1 by decide), if_pos rfl, hb]
      rfl
     show runB st ((⟨2, n, a, []⟩, p) :: rest) = _
     simp only [runB, hs]
     rw [Tr.cnt, Tr.cntL]
     rfl
   · rw [if_neg hk0] at he
     obtain ⟨p, more, rfl, hm⟩ := map_cons_inv he
     obtain ⟨m1, m2, rfl, hm1, hm2⟩ := map_app_inv hm
     obtain ⟨p3, m3, rfl, hm3⟩ := map_cons_inv hm2
     have : m3 = [] := by cases m3 with | nil => rfl | cons _ _ => cases hm3
     subst this
     have hs : stepB st ⟨1, n, a, []⟩ = .ok ⟨⟨n, a, []⟩ :: st.stack, none, st.count + 1, false⟩ := by
      unfold stepB
      rw [if_neg (show ¬ (1 : Int) = 4 by decide), if_pos rfl, hb]
     obtain ⟨tx', hx'⟩ := run_l ks hL ⟨n, a, []⟩ st.stack (st.count + 1) false m1 hm1 (fun h => by cases h) (by omega) (by omega)
     show runB st ((⟨1, n, a, []⟩, p) :: ((m1 ++ [(⟨3, n, [], []⟩, p3)]) ++ rest)) = _
     simp only [runB, hs]
     rw [List.append_assoc, hx']
     have he3 : stepB ⟨⟨n, a, [] ++ ks⟩ :: st.stack, none, st.count + 1 + Tr.cntL ks, tx'⟩ ⟨3, n, [], []⟩ = .ok (closeB ⟨n, a, [] ++ ks⟩ st.stack none (st.count + 1 + Tr.cntL ks)) := by
      unfold stepB
      rw [if_neg (show ¬ (3 : Int) = 4 by decide), if_neg (show ¬ (3 : Int) = 1 by decide), if_neg (show ¬ (3 : Int) = 2 by decide), if_pos rfl]
      unfold endB
      exact if_pos rfl
     show runB _ ((⟨3, n, [], []⟩, p3) :: rest) = _
     simp only [runB, he3]
     rw [Tr.cnt, List.nil_append, show st.count + 1 + Tr.cntL ks = st.count + (1 + Tr.cntL ks) by omega]
     rfl
theorem run_l : ∀ (ks : List Tr), RightL ks → ∀ (F : Fr) (S : List Fr) (c : Nat) (tx : Bool) (acc : List (Tk × Bs)), acc.map (·.1) = toksL ks → (tx = true → ∀ u r, ks = u :: r → u.name ≠ []) → S.length + 1 + Tr.depL ks ≤ 64 → c + Tr.cntL ks ≤ 4096 →
    ∃ tx' : Bool, ∀ rest, runB ⟨F :: S, none, c, tx⟩ (acc ++ rest) = runB ⟨⟨F.name, F.attrs, F.kids ++ ks⟩ :: S, none, c + Tr.cntL ks, tx'⟩ rest
 | [], _, F, S, c, tx, acc, he, _, _, _ => by
  rw [toksL] at he
  have : acc = [] := by simpa using he
  subst this
  exact ⟨tx, fun rest => by rw [List.append_nil, Tr.cntL]; rfl⟩
 | k :: l, h, F, S, c, tx, acc, he, htx, hd, hc => by
  obtain ⟨h1, h2, h3⟩ := h
  rw [toksL] at he
  rw [Tr.depL] at hd
  rw [Tr.cntL] at hc
  obtain ⟨m1, m2, rfl, hm1, hm2⟩ := map_app_inv he
  by_cases hn : k.name = []
  · obtain ⟨⟨e1, e2, e3, e4⟩, h5⟩ := h2 hn
    obtain ⟨kn, ka, kk, kx⟩ := k
    simp only [Tr.name, Tr.attrs, Tr.kids, Tr.text] at hn e1 e2 e3 e4
    subst hn e1 e2
    have hcn : (Tr.mk [] [] [] kx).cnt = 1 := by rw [Tr.cnt, Tr.cntL]
    rw [hcn] at hc
    rw [toksT, if_pos (show ([] : Bs).isEmpty = true from rfl)] at hm1
    obtain ⟨p, m3, rfl, hm3⟩ := map_cons_inv hm1
    have : m3 = [] := by cases m3 with | nil => rfl | cons _ _ => cases hm3
    subst this
    have htf : tx = false := by
     cases tx with
     | false => rfl
     | true => exact absurd rfl (htx rfl _ _ rfl)
    subst htf
    have hs : stepB ⟨F :: S, none, c, false⟩ ⟨4, [], [], kx⟩ = .ok ⟨F.add (.mk [] [] [] kx) :: S, none, c + 1, true⟩ := by
     have hxe : kx.isEmpty = false := by simpa using e3
     unfold stepB
     rw [if_pos rfl]
     simp only [lettersB, hxe]
     rw [if_neg (by simp), if_neg (by simp), if_neg (by omega)]
    obtain ⟨tx', hx'⟩ := run_l l h3 (F.add (.mk [] [] [] kx)) S (c + 1) true m2 hm2 (fun _ u r e => h5 u r e) (by omega) (by omega)
    refine ⟨tx', fun rest => ?_⟩
    show runB _ ((⟨4, [], [], kx⟩, p) :: (m2 ++ rest)) = _
    simp only [runB, hs]
    rw [hx', Tr.cntL, hcn]
    simp only [Fr.add, List.append_assoc, List.singleton_append]
    rw [show c + 1 + Tr.cntL l = c + (1 + Tr.cntL l) by omega]
  · have hr := h1 hn
    rw [if_neg hn] at hd
    have hrt : k.text = [] := by cases hr; assumption
    have ht := run_t k hr ⟨F :: S, none, c, tx⟩ m1
    obtain ⟨tx', hx'⟩ := run_l l h3 (F.add k) S (c + k.cnt) false m2 hm2 (fun h => by cases h) (by omega) (by omega)
    refine ⟨tx', fun rest => ?_⟩
    rw [List.append_assoc, ht (m2 ++ rest) hm1 rfl (by show S.length + 1 + k.dep ≤ 64; omega) (by show c + k.cnt ≤ 4096; omega)]
    have hcl : closeB (frOf k) (F :: S) none (c + k.cnt) = ⟨F.add k :: S, none, c + k.cnt, false⟩ := by
     unfold closeB
     rw [frOf_tree hrt]
    show runB (closeB (frOf k) (F :: S) none (c + k.cnt)) (m2 ++ rest) = _
    rw [hcl, hx', Tr.cntL]
    simp only [Fr.add, List.append_assoc, List.singleton_append]
    rw [show c + k.cnt + Tr.cntL l = c + (k.cnt + Tr.cntL l) by omega]
end
/-- The law of TreeBack. -/
theorem tree_back {t : Tr} (h : MayT t) : buildR t.pr = .ok t [] := by
 obtain ⟨h1, h2, h3⟩ := h
 have ha : Alt true (toksT t) := by
  have := alt_t t h1 true [] trivial
  rwa [List.append_nil] at this
 obtain ⟨more, e1, e2⟩ := alt_all (toksT t) (printP (toksT t)).length true [] ha (Nat.le_refl _)
 rw [toks_print] at e1
 have hall : allR t.pr = .ok more [] := by
  unfold allR
  rw [e1, List.nil_append]
 unfold buildR
 rw [hall]
 have := run_t t h1 st0 more [] e2 rfl (by show 0 + t.dep ≤ 64; omega) (by show 0 + t.cnt ≤ 4096; omega)
 rw [List.append_nil] at this
 show runB st0 more = _
 rw [this]
 have hrt : t.text = [] := by cases h1; assumption
 show runB (closeB (frOf t) [] none (0 + t.cnt)) [] = _
 unfold closeB
 rw [frOf_tree hrt]
 rfl

end Go.Proofs.YtbbbfjcikhpmbaaGreat

/- The walk of the law PomBack; the conditions stand in the theorem. -/
namespace Go.Proofs.YtbbbfjcikhpmbaaGreat
open Go Go.RowKit

/-- A reading without error, each cell told. -/
def ReadG (p : Pom) (w : World) (e : Ending) (w' : World) : Prop := ∃ (a1 : Option Addr) (c1 : Nat) (a2 : Option Addr) (c2 : Nat) (a3 : Option Addr) (c3 : Nat),
 e = .returned (.tuple #[.agg #[.bool p.hasParent, .string p.parent.group, .string p.parent.artifact, .string p.parent.version, .string p.group, .string p.artifact, .string p.version, .string p.packaging, .slice a1 p.props.length c1, .slice a2 p.managed.length c2, .slice a3 p.deps.length c3], .int .i64 0, .string ⟨#[]⟩]) ∧ PomOwn w.heap.size w' p (.slice a1 p.props.length c1) (.slice a2 p.managed.length c2) (.slice a3 p.deps.length c3) ∧ Below w.heap.size w w'
theorem ReadOut.good {t : Tr} {p : Pom} {w w' : World} {e : Ending} (h : ReadOut t w e w') (hV : readV t = p) (hE : readE t = none) : ReadG p w e w' := by
 obtain ⟨pv, mv, dv, rfl, ho⟩ := h.2.2 hE
 subst hV
 obtain ⟨a1, c1, rfl⟩ := ho.props.shape
 obtain ⟨L2, h2⟩ := ho.managed
 obtain ⟨a2, c2, hm⟩ := h2.row.shape
 have e2 : L2.length = (readV t).managed.length := by have := congrArg List.length h2.are; simpa using this
 rw [e2] at hm
 subst hm
 obtain ⟨L3, h3⟩ := ho.deps
 obtain ⟨a3, c3, hd⟩ := h3.row.shape
 have e3 : L3.length = (readV t).deps.length := by have := congrArg List.length h3.are; simpa using this
 rw [e3] at hd
 subst hd
 exact ⟨a1, c1, a2, c2, a3, c3, rfl, ho, h.1⟩
/-- A written node, each cell told. -/
def WriteG (N X : S) (t : Tr) (w : World) (e : Ending) (w' : World) : Prop := ∃ (ko : Option Addr) (kc : Nat), e = .returned (.agg #[.string N, .slice none 0 0, .slice ko t.kids.length kc, .string X]) ∧ NodeOf w' t (.slice none 0 0) (.slice ko t.kids.length kc) ∧ Below w.heap.size w w'
theorem WriteP.good {t : Tr} {w w' : World} {e : Ending} (h : WriteP t w e w') : WriteG (bs t.name) (bs t.text) t w e w' := by
 obtain ⟨kv, rfl, hn, hb⟩ := h
 obtain ⟨-, -, ko, kc, -, rfl, -, -⟩ := hn.shape
 exact ⟨ko, kc, rfl, hn, hb⟩
/-- A built node, each cell told. -/
def BuildG (N X : S) (t : Tr) (w : World) (e : Ending) (w' : World) : Prop := ∃ (ao : Option Addr) (an ac : Nat) (ko : Option Addr) (kn kc : Nat), e = .returned (.tuple #[.agg #[.string N, .slice ao an ac, .slice ko kn kc, .string X], .int .i64 0, .agg #[.int .i64 0, .int .i64 0, .int .i64 0]]) ∧ NodeOf w' t (.slice ao an ac) (.slice ko kn kc) ∧ Below w.heap.size w w'
theorem BuildOut.good {s : S} {t : Tr} {r : Bs} {w w' : World} {e : Ending} (h : BuildOut s w (.ok t r) e w') : BuildG (bs t.name) (bs t.text) t w e w' := by
 obtain ⟨av, kv, rfl, hn, hb⟩ := h
 obtain ⟨ao, ac, ko, kc, rfl, rfl, -, -⟩ := hn.shape
 exact ⟨ao, _, ac, ko, _, kc, rfl, hn, hb⟩
theorem may_props {p : Pom} (h : mayP p = true) : propsGo p.props [] = true := by
 unfold mayP at h
 simp only [Bool.and_eq_true, decide_eq_true_eq] at h
 exact h.2.2.2.1
set_option maxRecDepth 100000 in
set_option maxHeartbeats 16000000 in
theorem pomBackLaw_any (p : Pom) (pv mv dv : Value) (mx : Int) (w : World) (hp : PomOf w (.agg (pomC p pv mv dv).toArray) p pv mv dv) (hm : w.cell? ⟨0, 0, none⟩ = some (.int .i64 mx)) :
    Calls Tryz.prog 10 #[.agg (pomC p pv mv dv).toArray] w fun e w' => e = .returned (.bool true) ∧ Below w.heap.size w w' := by
 have hw0 : 0 < w.heap.size := World.block_lt_of_cell? w _ hm
 obtain ⟨T, hT⟩ : ∃ T, T = writeT p := ⟨_, rfl⟩
 obtain ⟨N, hN⟩ : ∃ N, N = bs T.name := ⟨_, rfl⟩
 obtain ⟨X, hX⟩ : ∃ X, X = bs T.text := ⟨_, rfl⟩
 obtain ⟨Z, hZ⟩ : ∃ Z : S, Z = bs T.pr := ⟨_, rfl⟩
 have HLV : Hid (∀ W, Below w.heap.size w W → Calls Tryz.prog 12 #[] W fun e w' => e = .returned (.bool true) ∧ Below W.heap.size W w') := fun W h => pomLives_any mx W ((h.cell (by exact hw0)).trans hm)
 have HL1 : Hid (∀ W, Below w.heap.size w W → Calls Tryz.prog 16 #[.agg (pomC p pv mv dv).toArray] W (RetB (LightP p) W)) := fun W h => lightP_any p pv mv dv W (hp.below h)
 have HM2 : Hid (LightP p → ∀ W, Below w.heap.size w W → Calls Tryz.prog 20 #[.agg (pomC p pv mv dv).toArray] W fun e w' => e = .returned (.bool (mayP p)) ∧ Below W.heap.size W w') := fun hL W h => mayPD_any p pv mv dv W (hp.below h) hL.small
 have HWR : Hid (LightP p → ∀ W, Below w.heap.size w W → Calls Tryz.prog 18 #[.agg (pomC p pv mv dv).toArray] W (WriteG N X T W)) := fun hL W h => by
  rw [hN, hX, hT]
  exact (writeQ_any p pv mv dv W (hp.below h) (Nat.le_trans hL.props (by decide)) (Nat.le_trans hL.managed (by decide)) (Nat.le_trans hL.deps (by decide)) (fun d hd => Nat.le_trans (hL.managedL d hd).excl (by decide)) (fun d hd => Nat.le_trans (hL.depsL d hd).excl (by decide))).mono fun e w' hO => hO.good
 have HRD : Hid (LightP p → mayP p = true → ∀ W av kv, NodeOf W T av kv → Calls Tryz.prog 13 #[.agg #[.string N, av, kv, .string X]] W (ReadG p W)) := fun hL hM W av kv h => by
  have h1 := readQ_any T W av kv h (hT ▸ mild_write (hL.lt (may_props hM)))
  rw [hN, hX]
  exact h1.mono fun e w' hO => hO.good (by rw [hT]; exact (write_read hM).1) (by rw [hT]; exact (write_read hM).2)
 have HSM : Hid (LightP p → ∀ base W a1 c1 a2 c2 a3 c3, Below w.heap.size w W → PomOwn base W p (.slice a1 p.props.length c1) (.slice a2 p.managed.length c2) (.slice a3 p.deps.length c3) → Calls Tryz.prog 15 #[.agg (pomC p pv mv dv).toArray, .agg #[.bool p.hasParent, .string p.parent.group, .string p.parent.artifact, .string p.parent.version, .string p.group, .string p.artifact, .string p.version, .string p.packaging, .slice a1 p.props.length c1, .slice a2 p.managed.length c2, .slice a3 p.deps.length c3]] W fun e w' => e = .returned (.bool true) ∧ Below W.heap.size W w') := fun hL base W a1 c1 a2 c2 a3 c3 h ho => by
  have h1 := sameX_any p p pv mv dv _ _ _ W (hp.below h) ho.of hL.manX hL.depX hL.manX hL.depX
  rwa [decide_eq_true rfl] at h1
 have HPR : Hid (LightP p → ∀ W av kv, NodeOf W T av kv → Calls Tryz.prog 29 #[.agg #[.string N, av, kv, .string X]] W fun e w' => e = .returned (.string Z) ∧ Below W.heap.size W w') := fun hL W av kv h => by
  rw [hN, hX, hZ]
  exact treePrint_any T W av kv h (by rw [hT]; exact Nat.le_trans (wt_write hL) (by decide))
 have HMY : Hid (LightP p → ∀ W av kv, NodeOf W T av kv → Calls Tryz.prog 26 #[.agg #[.string N, av, kv, .string X]] W (Says (MayT T) W)) := fun hL W av kv h => by
  have h1 := wt_write hL
  rw [← hT] at h1
  rw [hN, hX]
  exact refMay_any T W av kv h (fine_wt _ T (Nat.le_refl _) (by omega)) (by have := cnt_wt T; omega)
 have HBD : Hid (MayT T → Z.size ≤ 65536 → ∀ W, Below w.heap.size w W → Calls Tryz.prog 30 #[.string Z] W (BuildG N X T W)) := fun hM hs W h => by
  have h1 := build_any Z mx W hs ((h.cell (by exact hw0)).trans hm)
  rw [hZ, bs_data, tree_back hM] at h1
  rw [hZ, hN, hX]
  exact h1.mono fun e w' hO => hO.good
 obtain ⟨-, p1, p2, p3⟩ := hp
 obtain ⟨s1, s4, rfl⟩ := p1.shape
 obtain ⟨s2, s5, rfl⟩ := p2.shape
 obtain ⟨s3, s6, rfl⟩ := p3.shape
 generalize hmay : mayP p = may at *
 clear hm hw0 p1 p2 p3 hmay hT hN hX hZ
 obtain ⟨LP, hLP⟩ : ∃ Y : Prop, Y = LightP p := ⟨_, rfl⟩
 rw [← hLP] at HL1 HM2 HWR HRD HSM HPR HMY
 clear hLP
 obtain ⟨TN, hTN⟩ : ∃ n, n = T.kids.length := ⟨_, rfl⟩
 unfold WriteG at HWR
 rw [← hTN] at HWR
 clear hTN
 obtain ⟨NO, hNO⟩ : ∃ Y : World → Value → Value → Prop, Y = fun W => NodeOf W T := ⟨_, rfl⟩
 have HNK : Hid (∀ W W' av kv, NO W av kv → Below W.heap.size W W' → NO W' av kv) := fun W W' av kv h hb => by subst hNO; exact h.later hb
 obtain ⟨PO, hPO⟩ : ∃ Y : Nat → World → Value → Value → Value → Prop, Y = fun b W => PomOwn b W p := ⟨_, rfl⟩
 have HPK : Hid (∀ b W W' x y z, PO b W x y z → Below W.heap.size W W' → PO b W' x y z) := fun b W W' x y z h hb => by subst hPO; exact h.below hb
 replace HWR : Hid (LP → ∀ W, Below w.heap.size w W → Calls Tryz.prog 18 #[.agg (pomC p (.slice s1 p.props.length s4) (.slice s2 p.managed.length s5) (.slice s3 p.deps.length s6)).toArray] W fun e w' => ∃ (ko : Option Addr) (kc : Nat), e = .returned (.agg #[.string N, .slice none 0 0, .slice ko TN kc, .string X]) ∧ NO w' (.slice none 0 0) (.slice ko TN kc) ∧ Below W.heap.size W w') := by subst hNO; exact HWR
 replace HBD : Hid (MayT T → Z.size ≤ 65536 → ∀ W, Below w.heap.size w W → Calls Tryz.prog 30 #[.string Z] W fun e w' => ∃ (ao : Option Addr) (an ac : Nat) (ko : Option Addr) (kn kc : Nat), e = .returned (.tuple #[.agg #[.string N, .slice ao an ac, .slice ko kn kc, .string X], .int .i64 0, .agg #[.int .i64 0, .int .i64 0, .int .i64 0]]) ∧ NO w' (.slice ao an ac) (.slice ko kn kc) ∧ Below W.heap.size W w') := by subst hNO; exact HBD
 replace HRD : Hid (LP → may = true → ∀ W av kv, NO W av kv → Calls Tryz.prog 13 #[.agg #[.string N, av, kv, .string X]] W fun e w' => ∃ (a1 : Option Addr) (c1 : Nat) (a2 : Option Addr) (c2 : Nat) (a3 : Option Addr) (c3 : Nat),
  e = .returned (.tuple #[.agg #[.bool p.hasParent, .string p.parent.group, .string p.parent.artifact, .string p.parent.version, .string p.group, .string p.artifact, .string p.version, .string p.packaging, .slice a1 p.props.length c1, .slice a2 p.managed.length c2, .slice a3 p.deps.length c3], .int .i64 0, .string ⟨#[]⟩]) ∧ PO W.heap.size w' (.slice a1 p.props.length c1) (.slice a2 p.managed.length c2) (.slice a3 p.deps.length c3) ∧ Below W.heap.size W w') := by subst hNO; subst hPO; exact HRD
 replace HSM : Hid (LP → ∀ base W a1 c1 a2 c2 a3 c3, Below w.heap.size w W → PO base W (.slice a1 p.props.length c1) (.slice a2 p.managed.length c2) (.slice a3 p.deps.length c3) → Calls Tryz.prog 15 #[.agg (pomC p (.slice s1 p.props.length s4) (.slice s2 p.managed.length s5) (.slice s3 p.deps.length s6)).toArray, .agg #[.bool p.hasParent, .string p.parent.group, .string p.parent.artifact, .string p.parent.version, .string p.group, .string p.artifact, .string p.version, .string p.packaging, .slice a1 p.props.length c1, .slice a2 p.managed.length c2, .slice a3 p.deps.length c3]] W fun e w' => e = .returned (.bool true) ∧ Below W.heap.size W w') := by subst hPO; exact HSM
 replace HPR : Hid (LP → ∀ W av kv, NO W av kv → Calls Tryz.prog 29 #[.agg #[.string N, av, kv, .string X]] W fun e w' => e = .returned (.string Z) ∧ Below W.heap.size W w') := by subst hNO; exact HPR
 replace HMY : Hid (LP → ∀ W av kv, NO W av kv → Calls Tryz.prog 26 #[.agg #[.string N, av, kv, .string X]] W (Says (MayT T) W)) := by subst hNO; exact HMY
 clear hNO hPO
 obtain ⟨MT, hMT⟩ : ∃ Y : Prop, Y = MayT T := ⟨_, rfl⟩
 rw [← hMT] at HMY HBD
 clear hMT
 obtain ⟨dh, ⟨dx, dy, dz⟩, dg, da, dv, dk, dp, dm, dd⟩ := p
 simp only [pomC] at HL1 HM2 HWR HSM HRD ⊢
 generalize dp.length = lp at *
 generalize dm.length = lm at *
 generalize dd.length = ld at *
 go_enter Tryz.func10, Tryz.ntmps10
 go_upto_region 1 with fail
 refine wp_world ?_
 intro W hW
 have x1 : Box W w.heap.size [.bool dh, .string dx, .string dy, .string dz, .string dg, .string da, .string dv, .string dk, .slice s1 lp s4, .slice s2 lm s5, .slice s3 ld s6] := by rw [hW]; exact Box.new w [.bool dh, .string dx, .string dy, .string dz, .string dg, .string da, .string dv, .string dk, .slice s1 lp s4, .slice s2 lm s5, .slice s3 ld s6] _ _ rfl
 have hb : Below w.heap.size w W := by rw [hW]; exact (Below.refl _ w).alloc (Nat.le_refl _) _
 clear hW
 have HA := Lib.hid x1
 have HB := Lib.hid hb
 clear x1 hb
 obtain ⟨c0, c1, c2, c3, c4, c5, c6, c7, c8, c9, c10⟩ := bxc11 HA.out
 have cl := HA.out.lt
 go_wp2_with fail
 refine (HL1.out _ HB.out).mono ?_
 intro e w7 hO
 obtain ⟨b, rfl, hbt, hb7⟩ := hO
 have HBT := Lib.hid hbt
 have HA1 := Lib.hid (HA.out.below hb7 HA.out.lt)
 have HB1 := Lib.hid (HB.out.trans (hb7.mono HB.out.size))
 clear hbt hb7 HA HB HL1 c0 c1 c2 c3 c4 c5 c6 c7 c8 c9 c10 cl
 cases b with
 | false =>
  go_wp2_with fail
  refine (HLV.out _ HB1.out).mono ?_
  rintro e w8 ⟨rfl, hb8⟩
  have HB8 := Lib.hid (HB1.out.trans (hb8.mono HB1.out.size))
  clear hb8 HLV
  go_wp2
  go_ret
  exact ⟨rfl, HB8.out⟩
 | true =>
  have HLP := Lib.hid (HBT.out rfl)
  clear HBT
  obtain ⟨c0, c1, c2, c3, c4, c5, c6, c7, c8, c9, c10⟩ := bxc11 HA1.out
  have cl := HA1.out.lt
  go_wp2_with fail
  refine (HM2.out HLP.out _ HB1.out).mono ?_
  rintro e w2 ⟨rfl, hb2⟩
  have HA2 := Lib.hid (HA1.out.below hb2 HA1.out.lt)
  have HB2 := Lib.hid (HB1.out.trans (hb2.mono HB1.out.size))
  clear hb2 HA1 HB1 HM2 c0 c1 c2 c3 c4 c5 c6 c7 c8 c9 c10 cl
  cases may with
  | false =>
   go_wp2_with fail
   refine (HLV.out _ HB2.out).mono ?_
   rintro e w8 ⟨rfl, hb8⟩
   have HB8 := Lib.hid (HB2.out.trans (hb8.mono HB2.out.size))
   clear hb8 HLV
   go_wp2
   go_ret
   exact ⟨rfl, HB8.out⟩
  | true =>
   obtain ⟨c0, c1, c2, c3, c4, c5, c6, c7, c8, c9, c10⟩ := bxc11 HA2.out
   have cl := HA2.out.lt
   go_wp2_with fail
   refine (HWR.out HLP.out _ HB2.out).mono ?_
   rintro e w3 ⟨ko, kc, rfl, hn3, hb3⟩
   have HA3 := Lib.hid (HA2.out.below hb3 HA2.out.lt)
   have HB3 := Lib.hid (HB2.out.trans (hb3.mono HB2.out.size))
   have HN3 := Lib.hid hn3
   clear hn3 hb3 HA2 HB2 HWR c0 c1 c2 c3 c4 c5 c6 c7 c8 c9 c10 cl
   go_upto_region 4 with fail
   refine wp_world ?_
   intro W4 hW4
   have x4 : Box W4 w3.heap.size [.string N, .slice none 0 0, .slice ko TN kc, .string X] := by rw [hW4]; exact Box.new w3 [.string N, .slice none 0 0, .slice ko TN kc, .string X] _ _ rfl
   have hb4 : Below w3.heap.size w3 W4 := by rw [hW4]; exact (Below.refl _ w3).alloc (Nat.le_refl _) _
   clear hW4
   have HE4 := Lib.hid x4
   have HA4 := Lib.hid (HA3.out.below hb4 HA3.out.lt)
   have HB4 := Lib.hid (HB3.out.trans (hb4.mono HB3.out.size))
   have HN4 := Lib.hid (HNK.out _ _ _ _ HN3.out hb4)
   clear x4 hb4 HA3 HB3 HN3
   obtain ⟨n0, n1, n2, n3⟩ := bxc4 HE4.out
   have nl := HE4.out.lt
   go_wp2_with fail
   refine (HRD.out HLP.out (by trivial) _ _ _ HN4.out).mono ?_
   rintro e w5 ⟨t1, t4, t2, t5, t3, t6, rfl, hp5, hb5⟩
   have HA5 := Lib.hid (HA4.out.below hb5 HA4.out.lt)
   have HE5 := Lib.hid (HE4.out.below hb5 HE4.out.lt)
   have HB5 := Lib.hid (HB4.out.trans (hb5.mono HB4.out.size))
   have HN5 := Lib.hid (HNK.out _ _ _ _ HN4.out hb5)
   have HP5 := Lib.hid hp5
   clear hp5 hb5 HA4 HE4 HB4 HN4 n0 n1 n2 n3 nl
   go_upto_region 5 with fail
   refine wp_world ?_
   intro W6 hW6
   have x6 : Box W6 w5.heap.size [.bool dh, .string dx, .string dy, .string dz, .string dg, .string da, .string dv, .string dk, .slice t1 lp t4, .slice t2 lm t5, .slice t3 ld t6] := by rw [hW6]; exact Box.new w5 [.bool dh, .string dx, .string dy, .string dz, .string dg, .string da, .string dv, .string dk, .slice t1 lp t4, .slice t2 lm t5, .slice t3 ld t6] _ _ rfl
   have hb6 : Below w5.heap.size w5 W6 := by rw [hW6]; exact (Below.refl _ w5).alloc (Nat.le_refl _) _
   clear hW6
   have HQ6 := Lib.hid x6
   have HA6 := Lib.hid (HA5.out.below hb6 HA5.out.lt)
   have HE6 := Lib.hid (HE5.out.below hb6 HE5.out.lt)
   have HB6 := Lib.hid (HB5.out.trans (hb6.mono HB5.out.size))
   have HN6 := Lib.hid (HNK.out _ _ _ _ HN5.out hb6)
   have HP6 := Lib.hid (HPK.out _ _ _ _ _ _ HP5.out hb6)
   clear x6 hb6 HA5 HE5 HB5 HN5 HP5
   obtain ⟨c0, c1, c2, c3, c4, c5, c6, c7, c8, c9, c10⟩ := bxc11 HA6.out
   have cl := HA6.out.lt
   obtain ⟨d0, d1, d2, d3, d4, d5, d6, d7, d8, d9, d10⟩ := bxc11 HQ6.out
   have dl := HQ6.out.lt
   go_wp2_with fail
   refine (HSM.out HLP.out _ _ _ _ _ _ _ _ HB6.out HP6.out).mono ?_
   rintro e w7 ⟨rfl, hb7⟩
   have HA7 := Lib.hid (HA6.out.below hb7 HA6.out.lt)
   have HE7 := Lib.hid (HE6.out.below hb7 HE6.out.lt)
   have HB7 := Lib.hid (HB6.out.trans (hb7.mono HB6.out.size))
   have HN7 := Lib.hid (HNK.out _ _ _ _ HN6.out hb7)
   clear hb7 HA6 HE6 HB6 HN6 HP6 HQ6 c0 c1 c2 c3 c4 c5 c6 c7 c8 c9 c10 cl d0 d1 d2 d3 d4 d5 d6 d7 d8 d9 d10 dl
   obtain ⟨n0, n1, n2, n3⟩ := bxc4 HE7.out
   have nl := HE7.out.lt
   go_wp2_with fail
   refine (HPR.out HLP.out _ _ _ HN7.out).mono ?_
   rintro e w8 ⟨rfl, hb8⟩
   have HA8 := Lib.hid (HA7.out.below hb8 HA7.out.lt)
   have HE8 := Lib.hid (HE7.out.below hb8 HE7.out.lt)
   have HB8 := Lib.hid (HB7.out.trans (hb8.mono HB7.out.size))
   have HN8 := Lib.hid (HNK.out _ _ _ _ HN7.out hb8)
   clear hb8 HA7 HE7 HB7 HN7 HPR n0 n1 n2 n3 nl
   by_cases hz : Z.size ≤ 65536
   case neg =>
    have hzI : (65536 : Int) < (Z.size : Int) := by omega
    go_wp2_with fail
    refine (HLV.out _ HB8.out).mono ?_
    rintro e w8 ⟨rfl, hb8⟩
    have HB8 := Lib.hid (HB8.out.trans (hb8.mono HB8.out.size))
    clear hb8 HLV
    go_wp2
    go_ret
    exact ⟨rfl, HB8.out⟩
   have hzI : ¬ (65536 : Int) < (Z.size : Int) := by omega
   have HZS := Lib.hid hz
   clear hz
   obtain ⟨n0, n1, n2, n3⟩ := bxc4 HE8.out
   have nl := HE8.out.lt
   go_wp2_with fail
   refine (HMY.out HLP.out _ _ _ HN8.out).mono ?_
   intro e w9 hO
   obtain ⟨z, rfl, hmt, hb9⟩ := hO
   have HMT := Lib.hid hmt
   have HA9 := Lib.hid (HA8.out.below hb9 HA8.out.lt)
   have HB9 := Lib.hid (HB8.out.trans (hb9.mono HB8.out.size))
   clear hmt hb9 HA8 HB8 HE8 HN8 HMY n0 n1 n2 n3 nl
   cases z with
   | false =>
    go_wp2_with fail
    refine (HLV.out _ HB9.out).mono ?_
    rintro e w8 ⟨rfl, hb8⟩
    have HB8 := Lib.hid (HB9.out.trans (hb8.mono HB9.out.size))
    clear hb8 HLV
    go_wp2
    go_ret
    exact ⟨rfl, HB8.out⟩
   | true =>
    have HM' := Lib.hid (HMT.out.1 rfl)
    clear HMT
    go_wp2_with fail
    refine (HBD.out HM'.out HZS.out _ HB9.out).mono ?_
    rintro e w10 ⟨ao, an, ac, kb, kn, kc2, rfl, hn10, hb10⟩
    have HA10 := Lib.hid (HA9.out.below hb10 HA9.out.lt)
    have HB10 := Lib.hid (HB9.out.trans (hb10.mono HB9.out.size))
    have HN10 := Lib.hid hn10
    clear hn10 hb10 HA9 HB9 HBD HM' HZS
    go_upto_region 11 with fail
    refine wp_world ?_
    intro W11 hW11
    have x11 : Box W11 w10.heap.size [.string N, .slice ao an ac, .slice kb kn kc2, .string X] := by rw [hW11]; exact (Box.new w10 [.string N, .slice ao an ac, .slice kb kn kc2, .string X] _ _ rfl).alloc _
    have hb11 : Below w10.heap.size w10 W11 := by rw [hW11]; exact ((Below.refl _ w10).alloc (Nat.le_refl _) _).alloc (by simp) _
    clear hW11
    have HE11 := Lib.hid x11
    have HA11 := Lib.hid (HA10.out.below hb11 HA10.out.lt)
    have HB11 := Lib.hid (HB10.out.trans (hb11.mono HB10.out.size))
    have HN11 := Lib.hid (HNK.out _ _ _ _ HN10.out hb11)
    clear x11 hb11 HA10 HB10 HN10
    obtain ⟨n0, n1, n2, n3⟩ := bxc4 HE11.out
    have nl := HE11.out.lt
    go_wp2_with fail
    refine (HRD.out HLP.out (by trivial) _ _ _ HN11.out).mono ?_
    rintro e w12 ⟨u1, u4, u2, u5, u3, u6, rfl, hp12, hb12⟩
    have HA12 := Lib.hid (HA11.out.below hb12 HA11.out.lt)
    have HB12 := Lib.hid (HB11.out.trans (hb12.mono HB11.out.size))
    have HP12 := Lib.hid hp12
    clear hp12 hb12 HA11 HB11 HN11 HE11 HRD n0 n1 n2 n3 nl
    go_upto_region 12 with fail
    refine wp_world ?_
    intro W13 hW13
    have x13 : Box W13 w12.heap.size [.bool dh, .string dx, .string dy, .string dz, .string dg, .string da, .string dv, .string dk, .slice u1 lp u4, .slice u2 lm u5, .slice u3 ld u6] := by rw [hW13]; exact Box.new w12 [.bool dh, .string dx, .string dy, .string dz, .string dg, .string da, .string dv, .string dk, .slice u1 lp u4, .slice u2 lm u5, .slice u3 ld u6] _ _ rfl
    have hb13 : Below w12.heap.size w12 W13 := by rw [hW13]; exact (Below.refl _ w12).alloc (Nat.le_refl _) _
    clear hW13
    have HQ13 := Lib.hid x13
    have HA13 := Lib.hid (HA12.out.below hb13 HA12.out.lt)
    have HB13 := Lib.hid (HB12.out.trans (hb13.mono HB12.out.size))
    have HP13 := Lib.hid (HPK.out _ _ _ _ _ _ HP12.out hb13)
    clear x13 hb13 HA12 HB12 HP12
    obtain ⟨c0, c1, c2, c3, c4, c5, c6, c7, c8, c9, c10⟩ := bxc11 HA13.out
    have cl := HA13.out.lt
    obtain ⟨d0, d1, d2, d3, d4, d5, d6, d7, d8, d9, d10⟩ := bxc11 HQ13.out
    have dl := HQ13.out.lt
    go_wp2_with fail
    refine (HSM.out HLP.out _ _ _ _ _ _ _ _ HB13.out HP13.out).mono ?_
    rintro e w14 ⟨rfl, hb14⟩
    have HB14 := Lib.hid (HB13.out.trans (hb14.mono HB13.out.size))
    clear hb14 HA13 HB13 HP13 HQ13 c0 c1 c2 c3 c4 c5 c6 c7 c8 c9 c10 cl d0 d1 d2 d3 d4 d5 d6 d7 d8 d9 d10 dl
    go_wp2_with fail
    refine (HLV.out _ HB14.out).mono ?_
    rintro e w8 ⟨rfl, hb8⟩
    have HB8 := Lib.hid (HB14.out.trans (hb8.mono HB14.out.size))
    clear hb8 HLV
    go_wp2
    go_ret
    exact ⟨rfl, HB8.out⟩

end Go.Proofs.YtbbbfjcikhpmbaaGreat
