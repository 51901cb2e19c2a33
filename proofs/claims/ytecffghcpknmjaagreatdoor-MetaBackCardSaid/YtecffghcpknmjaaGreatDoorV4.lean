/- The walk of version.cut; the conditions stand in the theorem. -/
import Derived.Test.YtecffghcpknmjaaGreatDoorV3
import Derived.Test.YtecffghcpknmjaaGreatDoorOwn2
import Derived.Test.YtecffghcpknmjaaGreatDoorSB
import Derived.Deep.CutRange
namespace Go.Proofs.YtecffghcpknmjaaGreatDoor
open Go Go.RowKit

def pcC (p : Pc) : List Value := [.string (bs p.text), .bool p.hyphen, .bool p.close]
theorem pcC_len (p : Pc) : (pcC p).length = 3 := rfl
theorem pcC_one (p : Pc) : ∀ y ∈ [p], ∀ u ∈ pcC y, u.oneCell' = true := by
  intro y hy
  obtain rfl := List.mem_singleton.1 hy
  simp [pcC, Value.oneCell']
theorem info_pc : (Tryz.prog.info? 171).map (fun i => (i.zero, i.size, i.bytes)) = some (some (.agg #[.string ⟨#[]⟩, .bool false, .bool false]), 3, 24) := by kernel_rfl
theorem ext_bs (s : S) (a b : Nat) : s.extract a b = bs ((s.data.toList.drop a).take (b - a)) := by rw [← ext_trim, bs_self]
/-- What stands between two places. -/
def midB (T : Bs) (f k : Nat) : Bs := (T.drop f).take (k - f)
theorem midB_nil (T : Bs) (k : Nat) : midB T k k = [] := by simp [midB]
theorem midB_next (T : Bs) {f k : Nat} (hf : f ≤ k) (hk : k < T.length) : midB T f (k + 1) = midB T f k ++ [T[k]] := by
  unfold midB
  rw [show k + 1 - f = (k - f) + 1 by omega, List.take_add_one, List.getElem?_drop, show f + (k - f) = k by omega, List.getElem?_eq_getElem hk]
  rfl
theorem midB_last (T : Bs) {f k : Nat} (hf : f < k) (hk : k ≤ T.length) : (midB T f k).isEmpty = false ∧ (midB T f k).getLastD 0 = T[k - 1]'(by omega) := by
  obtain ⟨j, rfl⟩ : ∃ j, k = j + 1 := ⟨k - 1, by omega⟩
  rw [midB_next T (by omega) (by omega)]
  refine ⟨by simp, ?_⟩
  simp [List.getLastD_eq_getLast?]
/-- Where the cutting stands: the pieces so far, where the next one begins, what stands ahead of it. -/
def CutAt (T : Bs) (k f : Nat) (P : List Pc) (hy : Bool) : Prop := P.length ≤ k ∧ ((k ≤ T.length ∧ f ≤ k ∧ cutGo T [] false = P ++ cutGo (T.drop k) (midB T f k) hy) ∨ (k = T.length + 1 ∧ cutGo T [] false = P))
theorem CutAt.start (T : Bs) : CutAt T 0 0 [] false := ⟨Nat.le_refl _, .inl ⟨Nat.zero_le _, Nat.le_refl _, by simp [midB]⟩⟩
theorem CutAt.fin {T : Bs} {k f : Nat} {P : List Pc} {hy : Bool} (h : CutAt T k f P hy) (hk : k = T.length) : f ≤ k ∧ ∀ g b, CutAt T (k + 1) g (P ++ [⟨midB T f k, hy, false⟩]) b := by
  obtain ⟨hl, ⟨h1, h2, h3⟩ | ⟨h1, -⟩⟩ := h
  · refine ⟨h2, fun g b => ⟨by simp; omega, .inr ⟨by omega, ?_⟩⟩⟩
    rw [h3, hk, List.drop_length]
    rfl
  · omega
theorem CutAt.here {T : Bs} {k f : Nat} {P : List Pc} {hy : Bool} (h : CutAt T k f P hy) (hk : k < T.length) : f ≤ k ∧ cutGo T [] false = P ++ cutGo (T[k] :: T.drop (k + 1)) (midB T f k) hy := by
  obtain ⟨hl, ⟨h1, h2, h3⟩ | ⟨h1, -⟩⟩ := h
  · exact ⟨h2, by rw [h3, ← List.drop_eq_getElem_cons hk]⟩
  · omega
theorem CutAt.mark {T : Bs} {k f : Nat} {P : List Pc} {hy : Bool} (h : CutAt T k f P hy) (hk : k < T.length) (hm : markV T[k] = true) : CutAt T (k + 1) (k + 1) (P ++ [⟨midB T f k, hy, false⟩]) (T[k].toNat == 45) := by
  have h1 := (h.here hk).2
  refine ⟨by have := h.1; simp; omega, .inl ⟨hk, Nat.le_refl _, ?_⟩⟩
  rw [h1, midB_nil, List.append_assoc]
  congr 1
  rw [cutGo, if_pos hm]
  rfl
theorem CutAt.first {T : Bs} {k : Nat} {P : List Pc} {hy : Bool} (h : CutAt T k k P hy) (hk : k < T.length) (hm : markV T[k] = false) : CutAt T (k + 1) k P hy := by
  have h1 := (h.here hk).2
  refine ⟨by have := h.1; omega, .inl ⟨hk, by omega, ?_⟩⟩
  rw [h1]
  congr 1
  rw [cutGo, if_neg (by rw [hm]; simp), midB_nil, midB_next T (Nat.le_refl _) hk, midB_nil]
  simp
theorem CutAt.turn {T : Bs} {k f : Nat} {P : List Pc} {hy : Bool} (h : CutAt T k f P hy) (hk : k < T.length) (hm : markV T[k] = false) (hf : f < k) (hd : (cDigit T[k] != cDigit (T[k - 1]'(by omega))) = true) : CutAt T (k + 1) k (P ++ [⟨midB T f k, hy, true⟩]) true := by
  have h1 := (h.here hk).2
  have h2 := midB_last T hf (Nat.le_of_lt hk)
  refine ⟨by have := h.1; simp; omega, .inl ⟨hk, by omega, ?_⟩⟩
  rw [h1, List.append_assoc]
  congr 1
  rw [cutGo, if_neg (by rw [hm]; simp), h2.1, h2.2, if_pos (by rw [hd]; rfl), midB_next T (Nat.le_refl _) hk, midB_nil]
  rfl
theorem CutAt.on {T : Bs} {k f : Nat} {P : List Pc} {hy : Bool} (h : CutAt T k f P hy) (hk : k < T.length) (hm : markV T[k] = false) (hf : f < k) (hd : (cDigit T[k] != cDigit (T[k - 1]'(by omega))) = false) : CutAt T (k + 1) f P hy := by
  have h1 := (h.here hk).2
  have h2 := midB_last T hf (Nat.le_of_lt hk)
  refine ⟨by have := h.1; omega, .inl ⟨hk, by omega, ?_⟩⟩
  rw [h1]
  congr 1
  rw [cutGo, if_neg (by rw [hm]; simp), h2.1, h2.2, if_neg (by rw [hd]; simp), midB_next T (Nat.le_of_lt hf) hk]
theorem CutAt.le {T : Bs} {k f : Nat} {P : List Pc} {hy : Bool} (h : CutAt T k f P hy) : P.length ≤ k ∧ k ≤ T.length + 1 ∧ (k ≤ T.length → f ≤ k) := by
  obtain ⟨hl, ⟨h1, h2, -⟩ | ⟨h1, -⟩⟩ := h
  · exact ⟨hl, by omega, fun _ => h2⟩
  · exact ⟨hl, by omega, fun h => by omega⟩
set_option maxRecDepth 100000 in
set_option maxHeartbeats 16000000 in
theorem cut_any (s : S) (w : World) (hs : s.size ≤ 1000000) : Calls Tryz.prog 100 #[.string s] w fun e w' => ∃ v, e = .returned v ∧ Owns w.heap.size 171 3 pcC w' v (cutGo s.data.toList [] false) ∧ Below w.heap.size w w' := by
  have HSZ : Hid (s.data.toList.length = s.size) := size_data s
  go_enter Tryz.func100, Tryz.ntmps100
  go_wp2
  go_loopw [2, 3, 4, 5] (fun v f h i wr => ∃ (k f' : Nat) (P : List Pc) (hy : Bool) (lo : Option Addr) (lc : Nat), v = .slice lo P.length lc ∧ f = .int .i64 f' ∧ h = .bool hy ∧ i = .int .i64 k ∧ Hid (CutAt s.data.toList k f' P hy) ∧ Hid (Owns w.heap.size 171 3 pcC wr (.slice lo P.length lc) P) ∧ Hid (Below w.heap.size w wr)) (fun _ _ _ i _ => s.size + 1 - (intOf i).toNat)
  case atStart => exact ⟨0, 0, [], false, none, 0, rfl, rfl, rfl, rfl, CutAt.start _, Owns.nil, Below.refl _ _⟩
  case round =>
    obtain ⟨k, f, P, hy, lo, lc, rfl, rfl, rfl, rfl, HC, HO, HB⟩ := hrel
    have hle := HC.out.le
    rw [HSZ.out] at hle
    have hwr : w.heap.size ≤ wr.heap.size := HB.out.size
    by_cases hk : k ≤ s.size
    · have HLE : Hid (P.length ≤ 1000000) := by have := hle.1; show _ ≤ _; omega
      have hfk : f ≤ k := hle.2.2 hk
      have hx : s.extract f k = bs (midB s.data.toList f k) := ext_bs s f k
      have hi1 : IntKind.i64.wrap ((k : Int) + 1) = (k : Int) + 1 := IntWalk.i64_in _ (by omega)
      by_cases hkn : k = s.size
      · have e1 : ((k : Int) == (s.size : Int)) = true := by rw [beq_iff_eq]; omega
        have e1' : (k == s.size) = true := by rw [beq_iff_eq]; omega
        have d1 : decide ((k : Int) < (s.size : Int)) = false := decide_eq_false (by omega)
        have d1' : decide (k < s.size) = false := decide_eq_false (by omega)
        have HF := Lib.hid (HC.out.fin (by rw [HSZ.out]; exact hkn)).2
        have HKN := Lib.hid hkn
        clear hkn
        go_wp2_with (at_builtin; go_loud (refine wpList_append_slice _ rfl _ _ 168 rfl w.heap.size 171 Tryz.underlying168 info_pc rfl (by decide) pcC_len (.slice lo P.length lc) P rfl (HO.out.alloc _) _ [(⟨midB s.data.toList f k, hy, false⟩ : Pc)] rfl (sliceLit pcC_len wr [(⟨midB s.data.toList f k, hy, false⟩ : Pc)] _ _ 1 rfl rfl (by simp [maxLen])) (pcC_one _) (by have := HLE.out; simp only [List.length_singleton]; omega) (by decide) (by simp; omega) ?_); intro v9 w9 hown hgrow hloc; obtain ⟨lo9, lc9, hv9⟩ := hown.shape; rw [List.length_append, List.length_singleton] at hv9; subst hv9)
        have HBN : Hid (Below w.heap.size w w9) := (HB.out.alloc hwr _).grown hgrow (by simp; omega) (fun j hj => (HO.out.lt j hj).1)
        have HON : Hid (Owns w.heap.size 171 3 pcC w9 (.slice lo9 (P ++ [(⟨midB s.data.toList f k, hy, false⟩ : Pc)]).length lc9) (P ++ [(⟨midB s.data.toList f k, hy, false⟩ : Pc)])) := by
          show Owns _ _ _ _ _ _ _
          rw [List.length_append, List.length_singleton]
          exact hown
        clear hgrow hloc hown
        go_roundw
        case rel => exact ⟨k + 1, k + 1, _, _, lo9, lc9, by simp, by go_num, rfl, by go_num, HF.out _ _, HON, HBN⟩
        case measure => simp [intOf]; omega
      · have hkl : k < s.size := by omega
        have hkT : k < s.data.toList.length := by rw [HSZ.out]; exact hkl
        have e1 : ((k : Int) == (s.size : Int)) = false := by rw [beq_eq_false_iff_ne]; omega
        have e1' : (k == s.size) = false := by rw [beq_eq_false_iff_ne]; omega
        have d1 : decide ((k : Int) < (s.size : Int)) = true := decide_eq_true (by omega)
        have d1' : decide (k < s.size) = true := decide_eq_true hkl
        have HK : Hid (s.data.toList[k] = s[k]) := rfl
        cases hm : markV s[k] with
        | true =>
          have HI := Lib.hid (fun w => hm ▸ isMark_any s[k] w : ∀ w, Calls Tryz.prog 125 #[.int .u8 s[k].toNat] w fun e w' => e = .returned (.bool true) ∧ w = w')
          have hc : ((s[k].toNat : Int) == 45) = (s.data.toList[k].toNat == 45) := by
            show ((s[k].toNat : Int) == 45) = (s[k].toNat == 45)
            rw [Bool.eq_iff_iff, beq_iff_eq, beq_iff_eq]; omega
          have HN : Hid (CutAt s.data.toList (k + 1) (k + 1) (P ++ [(⟨midB s.data.toList f k, hy, false⟩ : Pc)]) ((s[k].toNat : Int) == 45)) := by
            show CutAt _ _ _ _ _
            rw [hc]; exact HC.out.mark hkT hm
          clear hm hc
          go_wp2_with fail
          refine (HI.out _).mono ?_
          rintro e w' ⟨rfl, rfl⟩
          go_wp2_with (at_builtin; go_loud (refine wpList_append_slice _ rfl _ _ 168 rfl w.heap.size 171 Tryz.underlying168 info_pc rfl (by decide) pcC_len (.slice lo P.length lc) P rfl (HO.out.alloc _) _ [(⟨midB s.data.toList f k, hy, false⟩ : Pc)] rfl (sliceLit pcC_len wr [(⟨midB s.data.toList f k, hy, false⟩ : Pc)] _ _ 1 rfl rfl (by simp [maxLen])) (pcC_one _) (by have := HLE.out; simp only [List.length_singleton]; omega) (by decide) (by simp; omega) ?_); intro v9 w9 hown hgrow hloc; obtain ⟨lo9, lc9, hv9⟩ := hown.shape; rw [List.length_append, List.length_singleton] at hv9; subst hv9)
          have HBN : Hid (Below w.heap.size w w9) := (HB.out.alloc hwr _).grown hgrow (by simp; omega) (fun j hj => (HO.out.lt j hj).1)
          have HON : Hid (Owns w.heap.size 171 3 pcC w9 (.slice lo9 (P ++ [(⟨midB s.data.toList f k, hy, false⟩ : Pc)]).length lc9) (P ++ [(⟨midB s.data.toList f k, hy, false⟩ : Pc)])) := by
            show Owns _ _ _ _ _ _ _
            rw [List.length_append, List.length_singleton]
            exact hown
          clear hgrow hloc hown
          go_roundw
          case rel => exact ⟨k + 1, k + 1, _, _, lo9, lc9, by simp, by go_num, rfl, by go_num, HN, HON, HBN⟩
          case measure => simp [intOf]; omega
        | false =>
          have HI := Lib.hid (fun w => hm ▸ isMark_any s[k] w : ∀ w, Calls Tryz.prog 125 #[.int .u8 s[k].toNat] w fun e w' => e = .returned (.bool false) ∧ w = w')
          by_cases hf : f < k
          · have hk1 : k - 1 < s.size := by omega
            have hi2 : IntKind.i64.wrap ((k : Int) - 1) = ((k - 1 : Nat) : Int) := by rw [IntWalk.i64_in _ (by omega)]; omega
            have d2 : decide ((f : Int) < (k : Int)) = true := decide_eq_true (by omega)
            have d2' : decide (f < k) = true := decide_eq_true hf
            cases hd : (cDigit s[k] != cDigit s[k - 1]) with
            | true =>
              have hd' : (!(cDigit s[k] == cDigit s[k - 1])) = true := hd
              have HN := Lib.hid (HC.out.turn hkT hm hf hd)
              clear hm
              have HD1 : Hid (∀ x : Later wr, Calls Tryz.prog 72 #[.int .u8 s[k].toNat] x.at_ fun e w'' => e = .returned (.bool (cDigit s[k])) ∧ ∃ y : Later wr, w'' = y.at_) := fun x => Later.callS ((isDigit_any s[k] _).mono fun e w' h => ⟨h.1, h.2 ▸ Below.refl _ _⟩)
              have HD2 : Hid (∀ x : Later wr, Calls Tryz.prog 72 #[.int .u8 s[k - 1].toNat] x.at_ fun e w'' => e = .returned (.bool (cDigit s[k - 1])) ∧ ∃ y : Later wr, w'' = y.at_) := fun x => Later.callS ((isDigit_any s[k - 1] _).mono fun e w' h => ⟨h.1, h.2 ▸ Below.refl _ _⟩)
              go_wp2_with fail
              refine (HI.out _).mono ?_
              rintro e w' ⟨rfl, rfl⟩
              go_upto_region 9 with fail
              refine region_laterS (by kernel_rfl) (by kernel_rfl) ?_
              repeat (go_big_quiet_step ((go_at_call 72; first | (with_reducible exact HD1.out _) | (with_reducible exact HD2.out _))))
              refine wpQuiet_nil ?_
              rintro _ ⟨nx, rfl⟩
              have HO := Lib.hid (HO.out.below nx.below)
              have HB := Lib.hid (HB.out.trans (nx.below.mono hwr))
              have hwr := HB.out.size
              generalize nx.at_ = wn at *
              clear HI HD1 HD2
              go_wp2_with (at_builtin; go_loud (refine wpList_append_slice _ rfl _ _ 168 rfl w.heap.size 171 Tryz.underlying168 info_pc rfl (by decide) pcC_len (.slice lo P.length lc) P rfl (HO.out.alloc _) _ [(⟨midB s.data.toList f k, hy, true⟩ : Pc)] rfl (sliceLit pcC_len wn [(⟨midB s.data.toList f k, hy, true⟩ : Pc)] _ _ 1 rfl rfl (by simp [maxLen])) (pcC_one _) (by have := HLE.out; simp only [List.length_singleton]; omega) (by decide) (by simp; omega) ?_); intro v9 w9 hown hgrow hloc; obtain ⟨lo9, lc9, hv9⟩ := hown.shape; rw [List.length_append, List.length_singleton] at hv9; subst hv9)
              have HBN : Hid (Below w.heap.size w w9) := (HB.out.alloc hwr _).grown hgrow (by simp; omega) (fun j hj => (HO.out.lt j hj).1)
              have HON : Hid (Owns w.heap.size 171 3 pcC w9 (.slice lo9 (P ++ [(⟨midB s.data.toList f k, hy, true⟩ : Pc)]).length lc9) (P ++ [(⟨midB s.data.toList f k, hy, true⟩ : Pc)])) := by
                show Owns _ _ _ _ _ _ _
                rw [List.length_append, List.length_singleton]
                exact hown
              clear hgrow hloc hown
              go_roundw
              case rel => exact ⟨k + 1, k, _, _, lo9, lc9, by simp, by go_num, rfl, by go_num, HN, HON, HBN⟩
              case measure => simp [intOf]; omega
            | false =>
              have hd' : (!(cDigit s[k] == cDigit s[k - 1])) = false := hd
              have HN := Lib.hid (HC.out.on hkT hm hf hd)
              clear hm
              have HD1 : Hid (∀ x : Later wr, Calls Tryz.prog 72 #[.int .u8 s[k].toNat] x.at_ fun e w'' => e = .returned (.bool (cDigit s[k])) ∧ ∃ y : Later wr, w'' = y.at_) := fun x => Later.callS ((isDigit_any s[k] _).mono fun e w' h => ⟨h.1, h.2 ▸ Below.refl _ _⟩)
              have HD2 : Hid (∀ x : Later wr, Calls Tryz.prog 72 #[.int .u8 s[k - 1].toNat] x.at_ fun e w'' => e = .returned (.bool (cDigit s[k - 1])) ∧ ∃ y : Later wr, w'' = y.at_) := fun x => Later.callS ((isDigit_any s[k - 1] _).mono fun e w' h => ⟨h.1, h.2 ▸ Below.refl _ _⟩)
              go_wp2_with fail
              refine (HI.out _).mono ?_
              rintro e w' ⟨rfl, rfl⟩
              go_upto_region 9 with fail
              refine region_laterS (by kernel_rfl) (by kernel_rfl) ?_
              repeat (go_big_quiet_step ((go_at_call 72; first | (with_reducible exact HD1.out _) | (with_reducible exact HD2.out _))))
              refine wpQuiet_nil ?_
              rintro _ ⟨nx, rfl⟩
              have HO := Lib.hid (HO.out.below nx.below)
              have HB := Lib.hid (HB.out.trans (nx.below.mono hwr))
              have hwr := HB.out.size
              generalize nx.at_ = wn at *
              clear HI HD1 HD2
              go_wp2
              go_roundw
              case rel => exact ⟨k + 1, f, P, hy, lo, lc, rfl, rfl, rfl, by go_num, HN, HO, HB⟩
              case measure => simp [intOf]; omega
          · obtain rfl : k = f := by omega
            have d2 : decide ((k : Int) < (k : Int)) = false := decide_eq_false (by omega)
            have HN := Lib.hid (HC.out.first hkT hm)
            clear hm
            go_wp2_with fail
            refine (HI.out _).mono ?_
            rintro e w' ⟨rfl, rfl⟩
            go_upto_region 9 with fail
            refine region_laterS (by kernel_rfl) (by kernel_rfl) ?_
            repeat (go_big_quiet_step (fail))
            refine wpQuiet_nil ?_
            rintro _ ⟨nx, rfl⟩
            have HO := Lib.hid (HO.out.below nx.below)
            have HB := Lib.hid (HB.out.trans (nx.below.mono hwr))
            have hwr := HB.out.size
            generalize nx.at_ = wn at *
            clear HI
            go_wp2
            go_roundw
            case rel => exact ⟨k + 1, k, P, hy, lo, lc, rfl, rfl, rfl, by go_num, HN, HO, HB⟩
            case measure => simp [intOf]; omega
    · have hk2 : k = s.size + 1 := by omega
      have d0 : decide ((k : Int) ≤ (s.size : Int)) = false := decide_eq_false (by omega)
      have HE : Hid (cutGo s.data.toList [] false = P) := by
        obtain ⟨-, ⟨h1, -, -⟩ | ⟨-, h3⟩⟩ := HC.out
        · rw [HSZ.out] at h1; omega
        · exact h3
      go_wp2
      go_ret
      exact ⟨_, rfl, by rw [HE.out]; exact HO.out, HB.out⟩

end Go.Proofs.YtecffghcpknmjaaGreatDoor
