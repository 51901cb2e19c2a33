/- Walks of the document's right and May; the conditions stand in the theorems. -/
import Derived.Test.YtbbbfjcikhpmbaaGreatJF23
import Derived.Test.YtbbbfjcikhpmbaaGreatJF18
import Derived.Test.YtbbbfjcikhpmbaaGreatProg
import Derived.Test.YtbbbfjcikhpmbaaGreatJF19
import Derived.Test.YtbbbfjcikhpmbaaGreatJF21
import Derived.Test.YtbbbfjcikhpmbaaGreatJF22
import Derived.Test.YtbbbfjcikhpmbaaGreatJF11
import Derived.Test.YtbbbfjcikhpmbaaGreatJF08
import Derived.Deep.CutBlock
import Derived.Test.YtbbbfjcikhpmbaaGreatJF14

namespace Go.Proofs.YtbbbfjcikhpmbaaGreat
open Go Go.RowKit

set_option maxRecDepth 100000 in
set_option maxHeartbeats 32000000 in
theorem right_any : ∀ (n : Nat) (t : Tr) (w : World) (av kv : Value), SizeOf.sizeOf t ≤ n → NodeOf w t av kv → FineT t →
    Calls Tryz.prog 72 #[nodeV t av kv] w (Says (RightT t) w)
 | 0, t, w, av, kv, hn, _, _ => by
  obtain ⟨n, l, k, x⟩ := t
  simp only [Tr.mk.sizeOf_spec] at hn
  omega
 | n + 1, t, w, av, kv, hn, ht, hf => by
  obtain ⟨ao, ac, ko, kc, rfl, rfl, hal, hkl⟩ := ht.shape
  have hac : t.attrs.length ≤ ac ∧ ac ≤ 9223372036854775807 := by
   obtain ⟨ao', ac', e, h1, h2, -⟩ := ht.att
   simp only [Value.slice.injEq] at e
   obtain ⟨-, -, rfl⟩ := e
   unfold maxLen at h2
   exact ⟨h1, by omega⟩
  obtain ⟨hac1, hac2⟩ := hac
  have HI : Hid (∀ k (hk : k < t.kids.length) (W' : World) (v1 v2 : Value), NodeOf W' t.kids[k] v1 v2 → Calls Tryz.prog 72 #[nodeV t.kids[k] v1 v2] W' (Says (RightT t.kids[k]) W')) := fun k hk W' v1 v2 h1 => right_any n _ W' v1 v2 (by have := kid_less hk; omega) h1 (hf.kids _ (List.getElem_mem hk))
  obtain ⟨N, hN⟩ : ∃ N : S, bs t.name = N := ⟨_, rfl⟩
  obtain ⟨X, hX⟩ : ∃ X : S, bs t.text = X := ⟨_, rfl⟩
  have HNM : Hid (∀ W, Calls Tryz.prog 62 #[.string N] W fun e w' => e = .returned (.bool (okName t.name)) ∧ W = w') := fun W => by have := refIsNm_any (bs t.name) W (by rw [bs_size]; have := hf.name; omega); rw [bs_data] at this; rw [← hN]; exact this
  have hXe : X.toList.isEmpty = t.text.isEmpty := by rw [empty_data, ← hX, bs_size]; cases t.text <;> simp
  have HRI : Hid (RightT t ↔ okName t.name = true ∧ t.text = [] ∧ (∀ k (h : k < t.attrs.length), OkAt t.attrs k h) ∧ ∀ k (h : k < t.kids.length), KidOk t k h) := by show _ ↔ _; rw [right_iff, goodAtts_iff]
  have HF := Lib.hid hf
  have HT := Lib.hid ht
  unfold nodeV
  rw [hN, hX]
  clear hN hX hn ht hf
  generalize hon : okName t.name = q1 at *
  clear hon
  have HBA : Hid (∀ o, Below w.heap.size w (w.alloc o)) := fun o => (Below.refl _ w).alloc (Nat.le_refl _) _
  cases q1 with
  | false =>
   go_enter Tryz.func72, Tryz.ntmps72
   go_wp2_with (go_at_call 62; refine (HNM.out _).mono ?_; rintro e w' ⟨rfl, rfl⟩)
   go_ret
   exact ⟨false, rfl, ⟨fun e => absurd e Bool.false_ne_true, fun e => by have := (HRI.out.1 e).1; cases this⟩, HBA.out _⟩
  | true =>
  by_cases h3 : t.text = []
  rotate_left
  · have hxe : X.toList.isEmpty = false := by rw [hXe]; simpa using h3
    have hxe2 : (!X.toList.isEmpty) = true := by rw [hxe]; rfl
    have H3 := Lib.hid h3
    clear h3 hXe
    go_enter Tryz.func72, Tryz.ntmps72
    go_wp2_with (go_at_call 62; refine (HNM.out _).mono ?_; rintro e w' ⟨rfl, rfl⟩)
    go_ret
    exact ⟨false, rfl, ⟨fun e => absurd e Bool.false_ne_true, fun e => absurd (HRI.out.1 e).2.1 H3.out⟩, HBA.out _⟩
  have hxe : X.toList.isEmpty = true := by rw [hXe, h3]; rfl
  have hxe2 : (!X.toList.isEmpty) = false := by rw [hxe]; rfl
  have HRJ : Hid (RightT t ↔ (∀ k (h : k < t.attrs.length), OkAt t.attrs k h) ∧ ∀ k (h : k < t.kids.length), KidOk t k h) := by
   show _ ↔ _
   rw [HRI.out]
   exact ⟨fun h => h.2.2, fun h => ⟨rfl, h3, h⟩⟩
  clear h3 hXe HRI
  go_enter Tryz.func72, Tryz.ntmps72
  go_wp2_with (go_at_call 62; refine (HNM.out _).mono ?_; rintro e w' ⟨rfl, rfl⟩)
  refine wp_world ?_
  intro W hW
  have hbW : Below w.heap.size w W := by rw [hW]; exact HBA.out _
  have hx0 : Box W w.heap.size [.string N, .slice ao t.attrs.length ac, .slice ko t.kids.length kc, .string X] := by rw [hW]; exact Box.new _ _ _ _ rfl
  have HW := Lib.hid hbW
  have HX := Lib.hid hx0
  have hWl := hx0.lt
  clear hW hbW hx0 hxe hxe2 HNM HBA
  go_loopw [3, 21] (fun _ i wr => ∃ k : Nat, k ≤ t.attrs.length ∧ i = .int .i64 k ∧ Hid (Below W.heap.size W wr ∧ ∀ q (h : q < t.attrs.length), q < k → OkAt t.attrs q h)) (fun _ i _ => t.attrs.length - (intOf i).toNat)
  case atStart => exact ⟨0, Nat.zero_le _, rfl, Below.refl _ _, fun q _ h => absurd h (Nat.not_lt_zero q)⟩
  case round =>
   obtain ⟨k, hk, rfl, HR⟩ := hrel
   have HBR := Lib.hid (HW.out.trans (HR.out.1.mono HW.out.size))
   have HXR := Lib.hid (HX.out.below HR.out.1 hWl)
   by_cases hlt : k < t.attrs.length
   · obtain ⟨g, o, rfl, hg, -, d0, d1⟩ := (HT.out.later HBR.out).atA k hlt
     have hki : (k : Int) < (t.attrs.length : Int) := by omega
     have hk0 : (0 : Int) ≤ (k : Int) := by omega
     have hkc : (k : Int) ≤ (ac : Int) := by omega
     obtain ⟨N1, hN1⟩ : ∃ N1 : S, bs t.attrs[k].1 = N1 := ⟨_, rfl⟩
     obtain ⟨V1, hV1⟩ : ∃ V1 : S, bs t.attrs[k].2 = V1 := ⟨_, rfl⟩
     have hz := HF.out.attrs _ (List.getElem_mem hlt)
     have HC2 : Hid (∀ W, Calls Tryz.prog 62 #[.string N1] W fun e w' => e = .returned (.bool (okName t.attrs[k].1)) ∧ W = w') := fun W => by have := refIsNm_any (bs t.attrs[k].1) W (by rw [bs_size]; omega); rw [bs_data] at this; rw [← hN1]; exact this
     have HC3 : Hid (∀ W, Calls Tryz.prog 105 #[.string V1] W fun e w' => e = .returned (.bool (okText t.attrs[k].2)) ∧ W = w') := fun W => by have := refPlain_any (bs t.attrs[k].2) W (by rw [bs_size]; omega); rw [bs_data] at this; rw [← hV1]; exact this
     have HOK : Hid (OkAt t.attrs k hlt ↔ ¬ hasAtt t.attrs[k].1 (t.attrs.take k) ∧ okName t.attrs[k].1 = true ∧ okText t.attrs[k].2 = true) := Iff.rfl
     have HBN := Lib.hid (fun o => HR.out.1.alloc HR.out.1.size o)
     have HB2 := Lib.hid (fun o => HBR.out.alloc HBR.out.size o)
     rw [hN1] at d0
     rw [hV1] at d1
     have HN1 := Lib.hid hN1
     clear hN1 hV1 hz
     generalize okName t.attrs[k].1 = q2 at *
     generalize okText t.attrs[k].2 = q3 at *
     cases q2 with
     | false =>
      go_wp2_with (go_at_call 62; refine (HC2.out _).mono ?_; rintro e w' ⟨rfl, rfl⟩)
      go_ret
      exact ⟨false, rfl, ⟨fun e => absurd e Bool.false_ne_true, fun e => by have := (HOK.out.1 ((HRJ.out.1 e).1 k hlt)).2.1; cases this⟩, HB2.out _⟩
     | true =>
     cases q3 with
     | false =>
      go_wp2_with (first | (go_at_call 62; refine (HC2.out _).mono ?_; rintro e w' ⟨rfl, rfl⟩) | (go_at_call 105; refine (HC3.out _).mono ?_; rintro e w' ⟨rfl, rfl⟩))
      go_ret
      exact ⟨false, rfl, ⟨fun e => absurd e Bool.false_ne_true, fun e => by have := (HOK.out.1 ((HRJ.out.1 e).1 k hlt)).2.2; cases this⟩, HB2.out _⟩
     | true =>
      have b1 := HXR.out.cell 1 _ rfl
      have bl := HXR.out.lt
      go_wp2_with (first | (go_at_call 62; refine (HC2.out _).mono ?_; rintro e w' ⟨rfl, rfl⟩) | (go_at_call 105; refine (HC3.out _).mono ?_; rintro e w' ⟨rfl, rfl⟩))
      refine wp_world ?_
      intro wo hwo
      have hbo : Below W.heap.size W wo := by rw [hwo]; exact HBN.out _
      have hxo : Box wo wr.heap.size [.string N1, .string V1] := by rw [hwo]; exact Box.new _ _ _ _ rfl
      have HBO := Lib.hid hbo
      have HXO := Lib.hid hxo
      have hol := hxo.lt
      clear hwo hbo hxo b1 bl d0 d1 HC2 HC3 HBN HB2
      obtain ⟨wq, hwq⟩ : ∃ wq : World, wq = wr := ⟨_, rfl⟩
      subst hwq
      go_loopw [41] (fun i wr2 => ∃ j : Nat, j ≤ k ∧ i = .int .i64 j ∧ Hid (Below wo.heap.size wo wr2 ∧ ∀ q (h : q < t.attrs.length), q < j → (t.attrs[q]'h).1 ≠ (t.attrs[k]'hlt).1)) (fun i _ => k - (intOf i).toNat)
      case atStart => exact ⟨0, Nat.zero_le _, rfl, Below.refl _ _, fun q _ h => absurd h (Nat.not_lt_zero q)⟩
      case round =>
       obtain ⟨j, hj, rfl, HR2⟩ := hrel
       have HBW := Lib.hid (HW.out.trans ((HBO.out.trans (HR2.out.1.mono HBO.out.size)).mono HW.out.size))
       by_cases hjk : j < k
       · have hjl : j < t.attrs.length := by omega
         obtain ⟨g', o', ee, hg2, -, f0, f1⟩ := (HT.out.later HBW.out).atA j hjl
         simp only [Option.some.injEq, Addr.mk.injEq, and_true] at ee
         obtain ⟨rfl, rfl⟩ := ee
         have hx2 := HXO.out.below HR2.out.1 hol
         have a0 := hx2.cell 0 _ rfl
         have al := hx2.lt
         have hji : (j : Int) < (k : Int) := by omega
         have hE := bs_beq2 t.attrs[k].1 t.attrs[j].1
         rw [HN1.out] at hE
         have HBN := Lib.hid (fun o => HR2.out.1.alloc HR2.out.1.size o)
         have HB2 := Lib.hid (fun o => HBW.out.alloc HBW.out.size o)
         clear hx2
         by_cases he : t.attrs[k].1 = t.attrs[j].1
         · rw [decide_eq_true he] at hE
           have HH : Hid (hasAtt t.attrs[k].1 (t.attrs.take k)) := ⟨j, by rw [List.length_take]; omega, by rw [List.getElem_take]; exact he.symm⟩
           clear he
           go_wp2
           go_ret
           exact ⟨false, rfl, ⟨fun e => absurd e Bool.false_ne_true, fun e => absurd HH.out (HOK.out.1 ((HRJ.out.1 e).1 k hlt)).1⟩, HB2.out _⟩
         · rw [decide_eq_false he] at hE
           have HH := Lib.hid he
           clear he
           go_wp2
           go_roundw
           case rel => exact ⟨j + 1, hjk, by go_num, HBN.out _, fun q h1 h3 => by
            rcases Nat.lt_succ_iff_lt_or_eq.1 h3 with h | rfl
            · exact HR2.out.2 q h1 h
            · exact fun e => HH.out e.symm⟩
           case measure => simp [intOf]; omega
       · obtain rfl : j = k := by omega
         have HOO : Hid (OkAt t.attrs j hlt) := HOK.out.2 ⟨fun ⟨q, h1, h2⟩ => by
          have hq : q < j := by rw [List.length_take] at h1; omega
          rw [List.getElem_take] at h2
          exact HR2.out.2 q (by omega) hq h2, by trivial, by trivial⟩
         have HB3 := Lib.hid (HBO.out.trans (HR2.out.1.mono HBO.out.size))
         go_wp2
         go_roundw
         case rel => exact ⟨j + 1, hlt, by go_num, HB3.out, fun q h1 h3 => by
          rcases Nat.lt_succ_iff_lt_or_eq.1 h3 with h | rfl
          · exact HR.out.2 q h1 h
          · exact HOO.out⟩
         case measure => simp [intOf]; omega
   · obtain rfl : k = t.attrs.length := by omega
     obtain ⟨wq, hwq⟩ : ∃ wq : World, wq = wr := ⟨_, rfl⟩
     subst hwq
     have HRK : Hid (RightT t ↔ ∀ k (h : k < t.kids.length), KidOk t k h) := by
      show _ ↔ _
      rw [HRJ.out]
      exact ⟨fun h => h.2, fun h => ⟨fun q h1 => HR.out.2 q h1 h1, h⟩⟩
     have b2 := HXR.out.cell 2 _ rfl
     have bl := HXR.out.lt
     clear HR HRJ HX HW hWl hk
     go_wp2
     go_loopw [7, 55] (fun _ i wr => ∃ k : Nat, k ≤ t.kids.length ∧ i = .int .i64 k ∧ Hid (Below wq.heap.size wq wr ∧ ∀ q (h : q < t.kids.length), q < k → KidOk t q h)) (fun _ i _ => t.kids.length - (intOf i).toNat)
     case atStart => exact ⟨0, Nat.zero_le _, rfl, Below.refl _ _, fun q _ h => absurd h (Nat.not_lt_zero q)⟩
     case round =>
      obtain ⟨k, hk, rfl, HR⟩ := hrel
      have HBW := Lib.hid (HBR.out.trans (HR.out.1.mono HBR.out.size))
      have HXX := Lib.hid (HXR.out.below HR.out.1 bl)
      clear b2
      by_cases hlt : k < t.kids.length
      · have hnk := HT.out.later HBW.out
        obtain ⟨g, o, r1, r2, s1, s2, rfl, hg, -, c0, c1, c2, c3, hn1⟩ := hnk.at k hlt
        have hki : (k : Int) < (t.kids.length : Int) := by omega
        have hk0 : (0 : Int) ≤ (k : Int) := by omega
        obtain ⟨N2, hN2⟩ : ∃ N2 : S, bs t.kids[k].name = N2 := ⟨_, rfl⟩
        obtain ⟨X2, hX2⟩ : ∃ X2 : S, bs t.kids[k].text = X2 := ⟨_, rfl⟩
        have hne2 : N2.toList.isEmpty = t.kids[k].name.isEmpty := by rw [empty_data, ← hN2, bs_size]; cases t.kids[k].name <;> simp
        have HBN := Lib.hid (fun o => HR.out.1.alloc HR.out.1.size o)
        have HB2 := Lib.hid (fun o => HBW.out.alloc HBW.out.size o)
        have HFK := Lib.hid (HF.out.kids _ (List.getElem_mem hlt))
        rw [hN2] at c0
        rw [hX2] at c3
        by_cases hne : t.kids[k].name = []
        · have he : N2.toList.isEmpty = true := by rw [hne2, hne]; rfl
          have he2 : (!N2.toList.isEmpty) = false := by rw [he]; rfl
          have hKO : KidOk t k hlt ↔ (t.kids[k].attrs.length = 0 ∧ t.kids[k].kids.length = 0 ∧ t.kids[k].text ≠ [] ∧ okText t.kids[k].text = true) ∧ ∀ j (hj : j + 1 = k), (t.kids[j]'(by omega)).name ≠ [] := by
           unfold KidOk LeafOk
           rw [List.length_eq_zero_iff, List.length_eq_zero_iff]
           exact ⟨fun h => by
            rcases h with h | h
            · exact absurd hne h.1
            · exact h.2, fun h => .inr ⟨hne, h⟩⟩
          have HKO := Lib.hid hKO
          have HTX : Hid (∀ W, Calls Tryz.prog 105 #[.string X2] W fun e w' => e = .returned (.bool (okText t.kids[k].text)) ∧ W = w') := fun W => by have := refPlain_any (bs t.kids[k].text) W (by rw [bs_size]; have := HFK.out.text; omega); rw [bs_data] at this; rw [← hX2]; exact this
          have hXe : X2.toList.isEmpty = t.kids[k].text.isEmpty := by rw [empty_data, ← hX2, bs_size]; cases t.kids[k].text <;> simp
          have HKP : Hid (∀ (j : Nat) (hj : j + 1 = k), wr.cell? ⟨g, o + j * 4, none⟩ = some (.string (bs (t.kids[j]'(by omega)).name))) := fun j hj => by
           obtain ⟨g', o', _, _, _, _, e1, -, -, d0, -⟩ := hnk.at j (by omega)
           simp only [Option.some.injEq, Addr.mk.injEq, and_true] at e1
           obtain ⟨rfl, rfl⟩ := e1
           exact d0
          have FALSE : Hid (¬ KidOk t k hlt → ∀ o1, Says (RightT t) w (.returned (.bool false)) (wr.alloc o1)) := fun h o1 => ⟨false, rfl, ⟨fun e => absurd e Bool.false_ne_true, fun e => absurd (HRK.out.1 e k hlt) h⟩, HB2.out _⟩
          clear hnk hn1 hN2 hX2 hne2 hKO hne HB2
          generalize hal2 : t.kids[k].attrs.length = la at *
          generalize hkl2 : t.kids[k].kids.length = lk at *
          generalize okText t.kids[k].text = q at *
          clear hal2 hkl2
          by_cases h1 : la = 0
          rotate_left
          · have hI : (0 : Int) < (la : Int) := by omega
            have HNO := Lib.hid (FALSE.out (fun h => h1 (HKO.out.1 h).1.1))
            clear h1
            go_wp2_with fail
            go_ret
            exact HNO.out _
          have hI1 : ¬ (0 : Int) < (la : Int) := by omega
          by_cases h2 : lk = 0
          rotate_left
          · have hI : (0 : Int) < (lk : Int) := by omega
            have HNO := Lib.hid (FALSE.out (fun h => h2 (HKO.out.1 h).1.2.1))
            clear h2 h1
            go_wp2_with fail
            go_ret
            exact HNO.out _
          have hI2 : ¬ (0 : Int) < (lk : Int) := by omega
          by_cases h3 : t.kids[k].text = []
          · have hxe : X2.toList.isEmpty = true := by rw [hXe, h3]; rfl
            have HNO := Lib.hid (FALSE.out (fun h => (HKO.out.1 h).1.2.2.1 h3))
            clear h3 h2 h1 hXe
            go_wp2_with fail
            go_ret
            exact HNO.out _
          have hxe : X2.toList.isEmpty = false := by rw [hXe]; simpa using h3
          cases q with
          | false =>
           have HNO := Lib.hid (FALSE.out (fun h => by have := (HKO.out.1 h).1.2.2.2; cases this))
           clear h3 h2 h1 hXe
           go_wp2_with (go_at_call 105; refine (HTX.out _).mono ?_; rintro e w' ⟨rfl, rfl⟩)
           go_ret
           exact HNO.out _
          | true =>
           have HKQ : Hid (KidOk t k hlt ↔ ∀ j (hj : j + 1 = k), (t.kids[j]'(by omega)).name ≠ []) := by
            show _ ↔ _
            rw [HKO.out]
            exact ⟨fun h => h.2, fun h => ⟨⟨h1, h2, h3, by trivial⟩, h⟩⟩
           clear h3 h2 h1 hXe HKO
           by_cases hk1 : k = 0
           · have hkI : ¬ (0 : Int) < (k : Int) := by omega
             have HOK : Hid (KidOk t k hlt) := HKQ.out.2 fun j hj => by omega
             clear hk1
             go_wp2_with (go_at_call 105; refine (HTX.out _).mono ?_; rintro e w' ⟨rfl, rfl⟩)
             go_roundw
             case rel => exact ⟨k + 1, hlt, by go_num, HBN.out _, fun q h1 h3 => by
              rcases Nat.lt_succ_iff_lt_or_eq.1 h3 with h | rfl
              · exact HR.out.2 q h1 h
              · exact HOK.out⟩
             case measure => simp [intOf]; omega
           · obtain ⟨j, hj⟩ : ∃ j, j + 1 = k := ⟨k - 1, by omega⟩
             have hkI : (0 : Int) < (k : Int) := by omega
             have hjw : (k : Int) - 1 = (j : Int) := by omega
             have hjI : (j : Int) < (t.kids.length : Int) := by omega
             have hj0 : (0 : Int) ≤ (j : Int) := by omega
             have b2 := HXX.out.cell 2 _ rfl
             have bl := HXX.out.lt
             have kp := HKP.out j hj
             have hjt : j < t.kids.length := by omega
             obtain ⟨N3, hN3⟩ : ∃ N3 : S, bs (t.kids[j]'hjt).name = N3 := ⟨_, rfl⟩
             have hne3 : N3.toList.isEmpty = (t.kids[j]'hjt).name.isEmpty := by rw [empty_data, ← hN3, bs_size]; cases (t.kids[j]'hjt).name <;> simp
             rw [hN3] at kp
             have HJ := Lib.hid hj
             by_cases hpe : (t.kids[j]'hjt).name = []
             · have he3 : N3.toList.isEmpty = true := by rw [hne3, hpe]; rfl
               have HNO := Lib.hid (FALSE.out (fun h => HKQ.out.1 h j HJ.out hpe))
               clear hN3 hne3 hpe hj hk1
               go_wp2_with (go_at_call 105; refine (HTX.out _).mono ?_; rintro e w' ⟨rfl, rfl⟩)
               go_ret
               exact HNO.out _
             · have he3 : N3.toList.isEmpty = false := by rw [hne3]; simpa using hpe
               have HOK : Hid (KidOk t k hlt) := HKQ.out.2 fun i hi => by
                have : i = j := by omega
                subst this
                exact hpe
               clear hN3 hne3 hpe hj hk1
               go_wp2_with (go_at_call 105; refine (HTX.out _).mono ?_; rintro e w' ⟨rfl, rfl⟩)
               go_roundw
               case rel => exact ⟨k + 1, hlt, by go_num, HBN.out _, fun q h1 h3 => by
                rcases Nat.lt_succ_iff_lt_or_eq.1 h3 with h | rfl
                · exact HR.out.2 q h1 h
                · exact HOK.out⟩
               case measure => simp [intOf]; omega
        · have he : N2.toList.isEmpty = false := by rw [hne2]; simpa using hne
          have he2 : (!N2.toList.isEmpty) = true := by rw [he]; rfl
          have HC : Hid (∀ o1, Calls Tryz.prog 72 #[.agg #[.string N2, .slice r1 t.kids[k].attrs.length r2, .slice s1 t.kids[k].kids.length s2, .string X2]] (wr.alloc o1) (Says (RightT t.kids[k]) (wr.alloc o1))) := fun o1 => by
           have := HI.out k hlt (wr.alloc o1) _ _ (hn1.later ((Below.refl _ _).alloc (Nat.le_refl _) _))
           unfold nodeV at this
           rw [hN2, hX2] at this
           exact this
          have HNE := Lib.hid hne
          clear hnk hn1 hN2 hX2 hne2 hne
          go_wp2_with fail
          refine (HC.out _).mono ?_
          rintro e w4 ⟨z, rfl, hz4, hb4⟩
          have HBN4 := Lib.hid ((HBN.out _).trans (hb4.mono (HBN.out _).size))
          have HBW4 := Lib.hid ((HB2.out _).trans (hb4.mono (HB2.out _).size))
          have HZ4 := Lib.hid hz4
          clear hb4 hz4 HC c0 c1 c2 c3 HBN HB2
          cases z with
          | false =>
           go_wp2
           go_ret
           refine ⟨false, rfl, ⟨fun e => absurd e Bool.false_ne_true, fun e => ?_⟩, HBW4.out⟩
           have h1 := HZ4.out.2 (by
            rcases HRK.out.1 e k hlt with h | h
            · exact h.2
            · exact absurd h.1 HNE.out)
           cases h1
          | true =>
           have HRT : Hid (RightT t.kids[k]) := HZ4.out.1 (by trivial)
           go_wp2
           go_roundw
           case rel => exact ⟨k + 1, hlt, by go_num, HBN4.out, fun q h1 h3 => by
            rcases Nat.lt_succ_iff_lt_or_eq.1 h3 with h | rfl
            · exact HR.out.2 q h1 h
            · exact .inl ⟨HNE.out, HRT.out⟩⟩
           case measure => simp [intOf]; omega
      · obtain rfl : k = t.kids.length := by omega
        go_wp2
        go_ret
        exact ⟨true, rfl, ⟨fun _ => HRK.out.2 fun q h1 => HR.out.2 q h1 h1, fun _ => rfl⟩, HBW.out⟩
set_option maxRecDepth 100000 in
set_option maxHeartbeats 8000000 in
theorem refMay_any (t : Tr) (w : World) (av kv : Value) (h : NodeOf w t av kv) (hf : FineT t) (hc : t.cnt ≤ 1000000) :
    Calls Tryz.prog 26 #[nodeV t av kv] w (Says (MayT t) w) := by
 obtain ⟨ao, ac, ko, kc, rfl, rfl, -, -⟩ := h.shape
 have HT := Lib.hid h
 obtain ⟨q, hq⟩ := bool_of (RightT t)
 have HR : Hid (∀ W, Below w.heap.size w W → Calls Tryz.prog 72 #[.agg #[.string (bs t.name), .slice ao t.attrs.length ac, .slice ko t.kids.length kc, .string (bs t.text)]] W fun e w' => e = .returned (.bool q) ∧ Below W.heap.size W w') := fun W hb => (right_any _ t W _ _ (Nat.le_refl _) (h.later hb) hf).mono fun e w' h => h.qb hq
 have HCN : Hid (∀ W, Below w.heap.size w W → Calls Tryz.prog 73 #[.agg #[.string (bs t.name), .slice ao t.attrs.length ac, .slice ko t.kids.length kc, .string (bs t.text)]] W fun e w' => e = .returned (.int .i64 t.cnt) ∧ Below W.heap.size W w') := fun W hb => refCount_any _ t W _ _ (Nat.le_refl _) (h.later hb) hc
 have HDP : Hid (∀ W, Below w.heap.size w W → Calls Tryz.prog 74 #[.agg #[.string (bs t.name), .slice ao t.attrs.length ac, .slice ko t.kids.length kc, .string (bs t.text)]] W fun e w' => e = .returned (.int .i64 t.dep) ∧ Below W.heap.size W w') := fun W hb => refDepth_any _ t W _ _ (Nat.le_refl _) (h.later hb) hc
 have HMT : Hid (MayT t ↔ q = true ∧ t.cnt ≤ 4096 ∧ t.dep ≤ 64) := by show _ ↔ _; unfold MayT; rw [hq]
 have HBA : Hid (∀ o, Below w.heap.size w (w.alloc o)) := fun o => (Below.refl _ w).alloc (Nat.le_refl _) _
 have hxn : ∀ o, o = Obj.cells #[.string (bs t.name), .slice ao t.attrs.length ac, .slice ko t.kids.length kc, .string (bs t.text)] 25 → Box (w.alloc o) w.heap.size [.string (bs t.name), .slice ao t.attrs.length ac, .slice ko t.kids.length kc, .string (bs t.text)] := fun o e => by subst e; exact Box.new _ _ _ _ rfl
 have HXN := Lib.hid (hxn _ rfl)
 clear h hf hq hxn hc
 unfold nodeV
 generalize t.cnt = cn at *
 generalize t.dep = dp at *
 go_enter Tryz.func26, Tryz.ntmps26
 go_wp2_with fail
 refine (HR.out _ (HBA.out _)).mono ?_
 rintro e w1 ⟨rfl, hb1⟩
 have HB1 := Lib.hid ((HBA.out _).trans (hb1.mono (HBA.out _).size))
 have hx1 := HXN.out.below hb1 HXN.out.lt
 have HX1 := Lib.hid hx1
 clear hb1 HXN HR HBA
 cases q with
 | false =>
  clear hx1
  go_wp2
  go_ret
  exact ⟨false, rfl, ⟨fun e => absurd e Bool.false_ne_true, fun e => by have := (HMT.out.1 e).1; cases this⟩, HB1.out⟩
 | true =>
  obtain ⟨a0, a1, a2, a3⟩ := bxc4 hx1
  have al := hx1.lt
  clear hx1
  go_wp2_with fail
  refine (HCN.out _ HB1.out).mono ?_
  rintro e w2 ⟨rfl, hb2⟩
  have HB2 := Lib.hid (HB1.out.trans (hb2.mono HB1.out.size))
  have hx2 := HX1.out.below hb2 al
  clear hb2 HX1 HB1 HCN a0 a1 a2 a3 al
  by_cases hc : cn ≤ 4096
  rotate_left
  · have hI : ¬ (cn : Int) ≤ 4096 := by omega
    have HNO : Hid (¬ MayT t) := fun h => hc (HMT.out.1 h).2.1
    clear hx2 hc
    go_wp2
    go_ret
    exact ⟨false, by first | rfl | (simp [hI]), ⟨fun e => absurd e Bool.false_ne_true, fun e => absurd e HNO.out⟩, HB2.out⟩
  · have hI : (cn : Int) ≤ 4096 := by omega
    obtain ⟨a0, a1, a2, a3⟩ := bxc4 hx2
    have al := hx2.lt
    clear hx2
    go_wp2_with fail
    refine (HDP.out _ HB2.out).mono ?_
    rintro e w3 ⟨rfl, hb3⟩
    have HB3 := Lib.hid (HB2.out.trans (hb3.mono HB2.out.size))
    clear hb3 HB2 HDP a0 a1 a2 a3 al
    by_cases hd : dp ≤ 64
    · have hJ : (dp : Int) ≤ 64 := by omega
      have HYES : Hid (MayT t) := HMT.out.2 ⟨by trivial, hc, hd⟩
      go_wp2
      go_ret
      exact ⟨true, by first | rfl | (simp [hJ]), ⟨fun _ => HYES.out, fun _ => rfl⟩, HB3.out⟩
    · have hJ : ¬ (dp : Int) ≤ 64 := by omega
      have HNO : Hid (¬ MayT t) := fun h => hd (HMT.out.1 h).2.2
      go_wp2
      go_ret
      exact ⟨false, by first | rfl | (simp [hJ]), ⟨fun e => absurd e Bool.false_ne_true, fun e => absurd e HNO.out⟩, HB3.out⟩

end Go.Proofs.YtbbbfjcikhpmbaaGreat

/- The walk of the law PomBack; the conditions stand in the theorem. -/
namespace Go.Proofs.YtbbbfjcikhpmbaaGreat
open Go Go.RowKit

/-- A reading without error, each cell told. -/
def ReadG (p : Pom) (w : World) (e : Ending) (w' : World) : Prop := ∃ (a1 : Option Addr) (c1 : Nat) (a2 : Option Addr) (c2 : Nat) (a3 : Option Addr) (c3 : Nat),
 e = .returned (.tuple #[.agg #[.bool p.hasParent, .string p.parent.group, .string p.parent.artifact, .string p.parent.version, .string p.group, .string p.artifact, .string p.version, .string p.packaging, .slice a1 p.props.length c1, .slice a2 p.managed.length c2, .slice a3 p.deps.length c3], .int .i64 0, .string ⟨#[]⟩]) ∧ PomOwn w.heap.size w' p (.slice a1 p.props.length c1) (.slice a2 p.managed.length c2) (.slice a3 p.deps.length c3) ∧ Below w.heap.size w w'
theorem ReadOut.good {t : Tr} {p : Pom} {w w' : World} {e : Ending} (h : ReadOut t w e w') (hV : readV t = p) (hE : readE t = none) : ReadG p w e w' := by
 obtain ⟨pv, mv, dv, rfl, ho⟩ := h.2.2 hE
 subst hV
 obtain ⟨a1, c1, rfl⟩ := ho.props.shape
 obtain ⟨L2, h2⟩ := ho.managed
 obtain ⟨a2, c2, hm⟩ := h2.row.shape
 have e2 : L2.length = (readV t).managed.length := by have := congrArg List.length h2.are; simpa using this
 rw [e2] at hm
 subst hm
 obtain ⟨L3, h3⟩ := ho.deps
 obtain ⟨a3, c3, hd⟩ := h3.row.shape
 have e3 : L3.length = (readV t).deps.length := by have := congrArg List.length h3.are; simpa using this
 rw [e3] at hd
 subst hd
 exact ⟨a1, c1, a2, c2, a3, c3, rfl, ho, h.1⟩
/-- A written node, each cell told. -/
def WriteG (N X : S) (t : Tr) (w : World) (e : Ending) (w' : World) : Prop := ∃ (ko : Option Addr) (kc : Nat), e = .returned (.agg #[.string N, .slice none 0 0, .slice ko t.kids.length kc, .string X]) ∧ NodeOf w' t (.slice none 0 0) (.slice ko t.kids.length kc) ∧ Below w.heap.size w w'
theorem WriteP.good {t : Tr} {w w' : World} {e : Ending} (h : WriteP t w e w') : WriteG (bs t.name) (bs t.text) t w e w' := by
 obtain ⟨kv, rfl, hn, hb⟩ := h
 obtain ⟨-, -, ko, kc, -, rfl, -, -⟩ := hn.shape
 exact ⟨ko, kc, rfl, hn, hb⟩

end Go.Proofs.YtbbbfjcikhpmbaaGreat

/- What is read of a tree that may be is a project that may be: plain laws; no program in sight. -/

namespace Go.Proofs.YtbbbfjcikhpmbaaGreat
open Go Go.RowKit

theorem dropW_idem {p : UInt8 → Bool} : ∀ l : Bs, (l.dropWhile p).dropWhile p = l.dropWhile p
 | [] => rfl
 | c :: l => by
  rw [List.dropWhile_cons]
  split
  · exact dropW_idem l
  · rename_i h; rw [List.dropWhile_cons, if_neg h]
theorem dropW_app {p : UInt8 → Bool} {c : UInt8} (hc : p c = false) : ∀ l : Bs, ∃ r, (l ++ [c]).dropWhile p = r ++ [c]
 | [] => ⟨[], by show List.dropWhile p [c] = _; rw [List.dropWhile_cons, if_neg (by rw [hc]; decide)]; rfl⟩
 | d :: l => by
  rw [List.cons_append, List.dropWhile_cons]
  split
  · exact dropW_app hc l
  · exact ⟨d :: l, rfl⟩
theorem dropW_sub {p : UInt8 → Bool} : ∀ {l : Bs} {c : UInt8}, c ∈ l.dropWhile p → c ∈ l
 | d :: l, c, h => by
  rw [List.dropWhile_cons] at h
  split at h
  · exact List.mem_cons_of_mem _ (dropW_sub h)
  · exact h
theorem trim_trim (l : Bs) : trimB (trimB l) = trimB l := by
 unfold trimB
 have h1 : ((l.dropWhile cBlank).reverse.dropWhile cBlank).reverse.dropWhile cBlank = ((l.dropWhile cBlank).reverse.dropWhile cBlank).reverse := by
  cases hm : l.dropWhile cBlank with
  | nil => rfl
  | cons c m =>
   have hc : cBlank c = false := by
    have h2 := dropW_idem (p := cBlank) l
    rw [hm, List.dropWhile_cons] at h2
    cases hq : cBlank c with
    | false => rfl
    | true =>
     rw [hq, if_pos rfl] at h2
     have h3 : (m.dropWhile cBlank).length ≤ m.length := (List.dropWhile_sublist _).length_le
     rw [h2, List.length_cons] at h3
     omega
   obtain ⟨r, hr⟩ := dropW_app hc m.reverse
   rw [List.reverse_cons, hr, List.reverse_append, List.reverse_singleton, List.singleton_append, List.dropWhile_cons, if_neg (by rw [hc]; decide)]
 rw [h1, List.reverse_reverse, dropW_idem]
theorem trim_sub {l : Bs} {c : UInt8} (h : c ∈ trimB l) : c ∈ l := by
 unfold trimB at h
 rw [List.mem_reverse] at h
 have := dropW_sub h
 rw [List.mem_reverse] at this
 exact dropW_sub this
theorem textF_mem : ∀ {l : List Tr} {c : UInt8}, c ∈ textF l → ∃ t ∈ l, t.name = [] ∧ c ∈ t.text
 | t :: l, c, h => by
  rw [textF, List.mem_append] at h
  rcases h with h | h
  · split at h
    · rename_i hn; exact ⟨t, by simp, by simpa using hn, h⟩
    · cases h
  · obtain ⟨u, hu, h1⟩ := textF_mem h
    exact ⟨u, by simp [hu], h1⟩
theorem RightT.leaf {t : Tr} (h : RightT t) {k : Tr} (hk : k ∈ t.kids) (hn : k.name = []) : LeafOk k := by cases h with | mk _ _ _ _ hl _ => exact hl k hk hn
theorem RightT.kid {t : Tr} (h : RightT t) {k : Tr} (hk : k ∈ t.kids) (hn : k.name ≠ []) : RightT k := by cases h with | mk _ _ _ h1 _ _ => exact h1 k hk hn
theorem RightT.name {t : Tr} (h : RightT t) : okName t.name = true := by cases h; assumption
theorem RightT.text {t : Tr} (h : RightT t) : okText (textV t) = true := by
 unfold okText
 rw [List.all_eq_true]
 intro c hc
 obtain ⟨k, hk, hn, hx⟩ := textF_mem (trim_sub hc)
 have := (h.leaf hk hn).2.2.2
 unfold okText at this
 exact List.all_eq_true.1 this c hx
theorem kid_name {m : Bs} {l : List Tr} {k : Tr} (h : k ∈ kidsF m l) : k.name ≠ [] ∧ k ∈ l := by
 obtain ⟨h1, h2⟩ := List.mem_filter.1 h
 unfold isKid at h2
 simp only [Bool.and_eq_true] at h2
 exact ⟨by simpa using h2.1, h1⟩
theorem RightT.kidF {t : Tr} (h : RightT t) {m : Bs} {k : Tr} (hk : k ∈ kidsF m t.kids) : RightT k := h.kid (kid_name hk).2 (kid_name hk).1
theorem RightT.one {t : Tr} (h : RightT t) {m : Bs} {k : Tr} (hk : oneV t m = some k) : RightT k := h.kidF (List.mem_of_mem_head? hk)
theorem text_okW {t : Tr} (h : RightT t) {w : Bs} {e : Bool} (he : textE t w e = none) : okW (bs (textV t)) e = true := by
 have h1 := textE_none he
 unfold okW
 rw [bs_data, bs_size, decide_eq_true h1, h.text]
 have h2 : trimB (textV t) = textV t := trim_trim _
 rw [decide_eq_true h2]
 cases e with
 | true => rfl
 | false =>
  have h3 : (textV t).isEmpty = false := by
   unfold textE textBad at he
   split at he
   · cases he
   · rename_i hc
     simp only [Bool.or_eq_true, not_or, Bool.and_eq_true, Bool.not_false, and_true] at hc
     exact Bool.eq_false_iff.2 hc.2
  rw [show ((bs (textV t)).toList.isEmpty) = (textV t).isEmpty from by rw [bs_empty, bs_data], h3]
  rfl
/-- A word that was read. -/
theorem word_may {t : Tr} (hr : RightT t) {w m : Bs} {must : Bool} {r : Bs → Bool} (h : wordE t w m must r = none) : okW (bs (wordV t m)) (!must) = true ∧ (wordV t m ≠ [] → r (wordV t m) = true) := by
 unfold wordE at h
 rw [Option.or_eq_none_iff] at h
 obtain ⟨-, h⟩ := h
 unfold wordV
 cases ho : oneV t m with
 | none =>
  rw [ho] at h
  cases must with
  | true => cases h
  | false => exact ⟨by kernel_rfl, fun h => absurd rfl h⟩
 | some k =>
  rw [ho] at h
  simp only [Option.or_eq_none_iff] at h
  refine ⟨?_, fun _ => ?_⟩
  · have h1 := text_okW (hr.one ho) h.1
    cases must with
    | true => exact h1
    | false => exact okW_of h1
  · have h2 := h.2
    split at h2
    · assumption
    · cases h2
theorem each_none {f : Tr → Bs → Option Er} : ∀ {l : List Tr} {w : Bs} {i : Nat}, eachE f w l i = none → ∀ t ∈ l, ∃ w, f t w = none
 | t :: l, w, i, h, u, hu => by
  rw [eachE, Option.or_eq_none_iff] at h
  rcases List.mem_cons.1 hu with rfl | hu
  · exact ⟨_, h.1⟩
  · exact each_none h.2 u hu
theorem list_none {f : Tr → Bs → Option Er} {t : Tr} {w m : Bs} (h : listE f t w m = none) : (kidsF m t.kids).length ≤ 1024 ∧ ∀ k ∈ kidsF m t.kids, ∃ w, f k w = none := by
 unfold listE at h
 rw [Option.or_eq_none_iff] at h
 refine ⟨?_, each_none h.2⟩
 have h1 := h.1
 split at h1
 · cases h1
 · omega
theorem okW_ne2 {x : Bs} (h : okW (bs x) false = true) : x ≠ [] := fun e => by
 have := okW_ne h
 rw [bs_empty, bs_data, e] at this
 cases this
theorem part_bs {x : Bs} (h : isPartQ x = true) : isPartS (bs x) = true := by rw [isPart_bs]; exact h
theorem ex_may {t : Tr} (hr : RightT t) {w : Bs} (h : exclE t w = none) : patB (exclV t) = true := by
 unfold exclE at h
 rw [Option.or_eq_none_iff] at h
 have h1 := word_may hr h.1
 have h2 := word_may hr h.2
 unfold patB exclV
 rw [part_bs (h1.2 (okW_ne2 h1.1)), part_bs (h2.2 (okW_ne2 h2.1))]
 rfl
theorem scope_range (s : Bs) : 0 ≤ scopeW s ∧ scopeW s ≤ 6 := by
 unfold scopeW scopeN
 repeat' split
 all_goals first | decide | omega
theorem opt_range (s : Bs) : 0 ≤ optQ s ∧ optQ s ≤ 2 := by
 unfold optQ
 repeat' split
 all_goals decide
theorem excl_may {t : Tr} (hr : RightT t) {w : Bs} (h : exclsE t w = none) : (exclsV t).all patB = true ∧ (exclsV t).length ≤ 1024 := by
 unfold exclsE at h
 rw [Option.or_eq_none_iff] at h
 unfold exclsV
 cases ho : oneV t bExclusions with
 | none => exact ⟨rfl, by simp⟩
 | some f =>
  rw [ho] at h
  obtain ⟨h1, h2⟩ := list_none h.2
  refine ⟨?_, by rw [List.length_map]; exact h1⟩
  rw [List.all_eq_true]
  intro y hy
  obtain ⟨k, hk, rfl⟩ := List.mem_map.1 hy
  obtain ⟨w', hw⟩ := h2 k hk
  exact ex_may ((hr.one ho).kidF hk) hw
theorem dep_may {m : Bool} {t : Tr} (hr : RightT t) {w : Bs} (h : depE m t w = none) : mayD (if m then 6 else 5) (depV t) = true := by
 unfold depE at h
 simp only [Option.or_eq_none_iff] at h
 obtain ⟨hg, ha, hv, ht, hc, hs, ho, hx⟩ := h
 have wg := word_may hr hg
 have wa := word_may hr ha
 have wv := word_may hr hv
 have wt := word_may hr ht
 have wc := word_may hr hc
 have ws := word_may hr hs
 obtain ⟨x1, x2⟩ := excl_may hr hx
 obtain ⟨s0, s6⟩ := scope_range (wordV t bScope)
 obtain ⟨o0, o2⟩ := opt_range (wordV t bOptional)
 have hsc : scopeW (wordV t bScope) ≤ (if m then 6 else 5) := by
  cases m with
  | true => exact s6
  | false =>
   show scopeW (wordV t bScope) ≤ 5
   by_cases he : wordV t bScope = []
   · rw [he]; decide
   · have := ws.2 he
     unfold isScopeQ at this
     simp at this
     omega
 unfold mayD depV
 simp only [Bool.and_eq_true, decide_eq_true_eq]
 exact ⟨wv.1, wt.1, wc.1, x1, wg.1, wa.1, s0, hsc, o0, o2, x2⟩
theorem deps_may {m : Bool} {t : Tr} (hr : RightT t) {w : Bs} (h : depsE m t w = none) : (depsV t).all (mayD (if m then 6 else 5)) = true ∧ (depsV t).length ≤ 1024 := by
 unfold depsE at h
 rw [Option.or_eq_none_iff] at h
 unfold depsV
 cases ho : oneV t bDependencies with
 | none => exact ⟨rfl, by simp⟩
 | some f =>
  rw [ho] at h
  obtain ⟨h1, h2⟩ := list_none h.2
  refine ⟨?_, by rw [List.length_map]; exact h1⟩
  rw [List.all_eq_true]
  intro y hy
  obtain ⟨k, hk, rfl⟩ := List.mem_map.1 hy
  obtain ⟨w', hw⟩ := h2 k hk
  exact dep_may ((hr.one ho).kidF hk) hw
theorem parent_may {t : Tr} (hr : RightT t) {w : Bs} (h : parentE t w = none) : parentB (parentV t).1 (parentV t).2 = true := by
 unfold parentE at h
 rw [Option.or_eq_none_iff] at h
 unfold parentV
 cases ho : oneV t bParent with
 | none => kernel_rfl
 | some f =>
  rw [ho] at h
  simp only [Option.or_eq_none_iff] at h
  obtain ⟨-, hg, ha, hv⟩ := h
  have wg := word_may (hr.one ho) hg
  have wa := word_may (hr.one ho) ha
  have wv := word_may (hr.one ho) hv
  show gavMay ⟨bs (wordV f bGroup), bs (wordV f bArtifact), bs (wordV f bVersion)⟩ = true
  unfold gavMay
  simp only [Bool.and_eq_true]
  exact ⟨⟨wg.2 (okW_ne2 wg.1), wa.2 (okW_ne2 wa.1)⟩, wv.2 (okW_ne2 wv.1)⟩
theorem props_go {w : Bs} : ∀ {r d : List Tr}, (∀ t ∈ r, RightT t) → propsEgo w r d = none → propsGo (r.map prpV) (d.map prpV) = true
 | [], _, _, _ => rfl
 | x :: r, d, hr, h => by
  rw [propsEgo, Option.or_eq_none_iff, Option.or_eq_none_iff] at h
  obtain ⟨h1, h2, h3⟩ := h
  have h4 := props_go (fun t ht => hr t (by simp [ht])) h3
  rw [List.map_append] at h4
  have hx := hr x (by simp)
  show ((!hasN (d.map prpV) (bs x.name) && (okName (bs x.name).data.toList && okW (bs (textV x)) true)) && propsGo (r.map prpV) (d.map prpV ++ [prpV x])) = true
  have h5 : d.any (fun y => decide (y.name = x.name)) = false := by
   cases hq : d.any (fun y => decide (y.name = x.name)) with
   | false => rfl
   | true => rw [hq] at h1; cases h1
  rw [hasN_prp, h5, bs_data, hx.name, text_okW hx h2]
  exact h4
theorem props_may {t : Tr} (hr : RightT t) {w : Bs} (h : propsE t w = none) : propsGo (propsV t) [] = true ∧ (propsV t).length ≤ 1024 := by
 unfold propsE at h
 rw [Option.or_eq_none_iff] at h
 unfold propsV
 cases ho : oneV t bProperties with
 | none => exact ⟨rfl, by simp⟩
 | some f =>
  rw [ho] at h
  simp only [Option.or_eq_none_iff] at h
  refine ⟨props_go (d := []) (fun k hk => (hr.one ho).kidF hk) h.2.2, ?_⟩
  have h1 := h.2.1
  show ((kidsF [] f.kids).map prpV).length ≤ 1024
  rw [List.length_map]
  split at h1
  · cases h1
  · omega
theorem managed_may {t : Tr} (hr : RightT t) {w : Bs} (h : managedE t w = none) : (managedV t).all (mayD 6) = true ∧ (managedV t).length ≤ 1024 := by
 unfold managedE at h
 rw [Option.or_eq_none_iff] at h
 unfold managedV
 cases ho : oneV t bManagement with
 | none => exact ⟨rfl, by simp⟩
 | some f =>
  rw [ho] at h
  exact deps_may (m := true) (hr.one ho) h.2
/-- What is read may be. -/
theorem read_may {t : Tr} (hr : RightT t) (h : readE t = none) : mayP (readV t) = true := by
 unfold readE at h
 simp only [Option.or_eq_none_iff] at h
 obtain ⟨-, hp, hg, ha, hv, hk, hps, hm, hd⟩ := h
 have a1 := parent_may hr hp
 have a2 := (word_may hr hg).1
 have a3 := (word_may hr ha).1
 have a4 := (word_may hr hv).1
 have a5 := (word_may hr hk).1
 obtain ⟨b1, b2⟩ := props_may hr hps
 obtain ⟨c1, c2⟩ := managed_may hr hm
 obtain ⟨d1, d2⟩ := deps_may (m := false) hr hd
 unfold mayP readV
 simp only [Bool.and_eq_true, decide_eq_true_eq]
 exact ⟨a1, ⟨a2, a3, a4, a5⟩, b2, b1, ⟨c1, c2⟩, d1, d2⟩
/-! Light trees are mild and fine; what may be is not too great; errors are two numbers. -/
theorem textF_len {n : Nat} : ∀ {l : List Tr}, (∀ t ∈ l, t.text.length ≤ n) → (textF l).length ≤ l.length * n
 | [], _ => by simp [textF]
 | t :: l, h => by
  rw [textF, List.length_append, List.length_cons, Nat.add_mul, Nat.one_mul]
  have h1 := textF_len (fun u hu => h u (List.mem_cons_of_mem _ hu))
  have h2 := h t (by simp)
  split
  · omega
  · simp only [List.length_nil]; omega
theorem LightT.mild {t : Tr} (h : LightT t) : Mild t := by
 induction h with
 | mk hn hx hal ha hkl hk ih =>
  refine .of (Nat.le_trans hkl (by decide)) ?_ (Nat.le_trans hn (by decide)) ih
  rename_i n ats ks x
  show (textF ks).length ≤ _
  have h1 := textF_len (l := ks) (n := 1000) (fun t ht => (hk t ht).text)
  have h2 := Nat.mul_le_mul_right 1000 hkl
  omega
theorem LightT.fine {t : Tr} (h : LightT t) : FineT t := by
 induction h with
 | mk hn hx hal ha hkl hk ih => exact .mk (Nat.le_trans hn (by decide)) (Nat.le_trans hx (by decide)) (fun b hb => ⟨Nat.le_trans (ha b hb).1 (by decide), Nat.le_trans (ha b hb).2 (by decide)⟩) ih
theorem okW_size {s : S} {b : Bool} (h : okW s b = true) : s.size ≤ 1000000 := by
 unfold okW at h
 simp only [Bool.and_eq_true, decide_eq_true_eq] at h
 exact Nat.le_trans h.2.1 (by decide)
theorem isId_size {s : S} (h : isIdB s = true) : s.size ≤ 1000000 := okW_size (isId_okW h).1
theorem mayD_lt {m : Int} {d : Dep} (h : mayD m d = true) : DepLt d := by
 unfold mayD at h
 simp only [Bool.and_eq_true, decide_eq_true_eq] at h
 obtain ⟨hv, ht, hc, hx, hg, ha, -, -, -, -, hl⟩ := h
 rw [List.all_eq_true] at hx
 refine ⟨fun s hs => ?_, fun y hy => ?_, Nat.le_trans hl (by decide)⟩
 · simp only [List.mem_cons, List.not_mem_nil, or_false] at hs
   rcases hs with rfl | rfl | rfl | rfl | rfl
   · exact okW_size hg
   · exact okW_size ha
   · exact okW_size hv
   · exact okW_size ht
   · exact okW_size hc
 · have := hx y hy
   unfold patB at this
   simp only [Bool.and_eq_true] at this
   exact ⟨okW_size (part_okW this.1).1, okW_size (part_okW this.2).1⟩
theorem mayP_lt {p : Pom} (h : mayP p = true) (hn : ∀ y ∈ p.props, y.name.size ≤ 1000000) : PomLt p := by
 unfold mayP at h
 simp only [Bool.and_eq_true, decide_eq_true_eq] at h
 obtain ⟨hp, ⟨hg, ha, hv, hk⟩, hpl, hps, ⟨hm, hml⟩, hd, hdl⟩ := h
 rw [List.all_eq_true] at hm hd
 have hgv : p.parent.group.size ≤ 1000000 ∧ p.parent.artifact.size ≤ 1000000 ∧ p.parent.version.size ≤ 1000000 := by
  unfold parentB at hp
  split at hp
  · unfold gavMay at hp
    simp only [Bool.and_eq_true] at hp
    exact ⟨isId_size hp.1.1, isId_size hp.1.2, okW_size (ver_okW hp.2).1⟩
  · rw [of_decide_eq_true hp]; exact ⟨by decide, by decide, by decide⟩
 refine ⟨fun s hs => ?_, fun y hy => ⟨hn y hy, okW_size (props_ok hps y hy).2, fun e => by have := (props_ok hps y hy).1; rw [e] at this; revert this; decide⟩, fun d hd' => mayD_lt (hm d hd'), fun d hd' => mayD_lt (hd d hd'), by omega, by omega, by omega⟩
 simp only [List.mem_cons, List.not_mem_nil, or_false] at hs
 rcases hs with rfl | rfl | rfl | rfl | rfl | rfl | rfl
 · exact okW_size hg
 · exact okW_size ha
 · exact okW_size hv
 · exact okW_size hk
 · exact hgv.1
 · exact hgv.2.1
 · exact hgv.2.2
theorem LightT.names {t : Tr} (h : LightT t) : ∀ y ∈ (readV t).props, y.name.size ≤ 1000000 := by
 intro y hy
 have hy : y ∈ propsV t := hy
 unfold propsV at hy
 cases ho : oneV t bProperties with
 | none => rw [ho] at hy; cases hy
 | some f =>
  rw [ho] at hy
  obtain ⟨k, hk, rfl⟩ := List.mem_map.1 hy
  have h1 := (h.kids f (oneV_mem ho)).kids k (kidsF_sub hk)
  show (bs k.name).size ≤ _
  rw [bs_size]
  exact Nat.le_trans h1.name (by decide)
theorem PomLt.small {p : Pom} (h : PomLt p) : PomSm p :=
 ⟨fun s hs => h.own s (by simp only [List.mem_cons, List.not_mem_nil, or_false] at hs ⊢; rcases hs with rfl | rfl | rfl | rfl <;> simp), fun y hy => ⟨(h.prp y hy).1, (h.prp y hy).2.1⟩, fun d hd => ⟨(h.man d hd).own, (h.man d hd).ex⟩, fun d hd => ⟨(h.dep d hd).own, (h.dep d hd).ex⟩,
  Nat.le_trans (h.own p.parent.group (by simp)) (by decide), Nat.le_trans (h.own p.parent.artifact (by simp)) (by decide), Nat.le_trans (h.own p.parent.version (by simp)) (by decide)⟩
/-- Errors are of two numbers. -/
def Er2 (o : Option Er) : Prop := ∀ x, o = some x → x.1 = 20 ∨ x.1 = 2
theorem Er2.none : Er2 none := fun _ h => by cases h
theorem Er2.f (w : Bs) : Er2 (some (20, w)) := fun _ h => by cases h; exact .inl rfl
theorem Er2.b (w : Bs) : Er2 (some (2, w)) := fun _ h => by cases h; exact .inr rfl
theorem Er2.ite {c : Prop} [Decidable c] {a b : Option Er} (ha : Er2 a) (hb : Er2 b) : Er2 (if c then a else b) := by split <;> assumption
theorem Er2.or {a b : Option Er} (ha : Er2 a) (hb : Er2 b) : Er2 (a.or b) := fun x h => by
 cases a with
 | none => exact hb x h
 | some y => exact ha x h
theorem er2_many (t : Tr) (w m : Bs) : Er2 (manyE t w m) := .ite (.f _) .none
theorem er2_text (t : Tr) (w : Bs) (e : Bool) : Er2 (textE t w e) := .ite (.f _) .none
theorem er2_word (t : Tr) (w m : Bs) (must : Bool) (r : Bs → Bool) : Er2 (wordE t w m must r) := by
 unfold wordE
 refine (er2_many _ _ _).or ?_
 cases oneV t m with
 | none => exact .ite (.f _) .none
 | some k => exact (er2_text _ _ _).or (.ite .none (.f _))
theorem er2_each {f : Tr → Bs → Option Er} (hf : ∀ t w, Er2 (f t w)) : ∀ (l : List Tr) (w : Bs) (i : Nat), Er2 (eachE f w l i)
 | [], _, _ => .none
 | t :: l, w, i => by rw [eachE]; exact (hf _ _).or (er2_each hf l w _)
theorem er2_list {f : Tr → Bs → Option Er} (hf : ∀ t w, Er2 (f t w)) (t : Tr) (w m : Bs) : Er2 (listE f t w m) := (Er2.ite (.b _) .none).or (er2_each hf _ _ _)
theorem er2_ex (t : Tr) (w : Bs) : Er2 (exclE t w) := (er2_word _ _ _ _ _).or (er2_word _ _ _ _ _)
theorem er2_exs (t : Tr) (w : Bs) : Er2 (exclsE t w) := by
 unfold exclsE
 refine (er2_many _ _ _).or ?_
 cases oneV t bExclusions with
 | none => exact .none
 | some f => exact er2_list er2_ex _ _ _
theorem er2_dep (m : Bool) (t : Tr) (w : Bs) : Er2 (depE m t w) :=
 (er2_word _ _ _ _ _).or ((er2_word _ _ _ _ _).or ((er2_word _ _ _ _ _).or ((er2_word _ _ _ _ _).or ((er2_word _ _ _ _ _).or ((er2_word _ _ _ _ _).or ((er2_word _ _ _ _ _).or (er2_exs _ _)))))))
theorem er2_deps (m : Bool) (t : Tr) (w : Bs) : Er2 (depsE m t w) := by
 unfold depsE
 refine (er2_many _ _ _).or ?_
 cases oneV t bDependencies with
 | none => exact .none
 | some f => exact er2_list (er2_dep m) _ _ _
theorem er2_managed (t : Tr) (w : Bs) : Er2 (managedE t w) := by
 unfold managedE
 refine (er2_many _ _ _).or ?_
 cases oneV t bManagement with
 | none => exact .none
 | some f => exact er2_deps _ _ _
theorem er2_parent (t : Tr) (w : Bs) : Er2 (parentE t w) := by
 unfold parentE
 refine (er2_many _ _ _).or ?_
 cases oneV t bParent with
 | none => exact .none
 | some f => exact (er2_word _ _ _ _ _).or ((er2_word _ _ _ _ _).or (er2_word _ _ _ _ _))
theorem er2_propsGo (w : Bs) : ∀ (r d : List Tr), Er2 (propsEgo w r d)
 | [], _ => .none
 | t :: r, d => by rw [propsEgo]; exact (Er2.ite (.f _) .none).or ((er2_text _ _ _).or (er2_propsGo w r _))
theorem er2_props (t : Tr) (w : Bs) : Er2 (propsE t w) := by
 unfold propsE
 refine (er2_many _ _ _).or ?_
 cases oneV t bProperties with
 | none => exact .none
 | some f => exact (Er2.ite (.b _) .none).or (er2_propsGo _ _ _)
theorem er2_read (t : Tr) : Er2 (readE t) :=
 (Er2.ite .none (.f _)).or ((er2_parent _ _).or ((er2_word _ _ _ _ _).or ((er2_word _ _ _ _ _).or ((er2_word _ _ _ _ _).or ((er2_word _ _ _ _ _).or ((er2_props _ _).or ((er2_managed _ _).or (er2_deps _ _ _))))))))

end Go.Proofs.YtbbbfjcikhpmbaaGreat
