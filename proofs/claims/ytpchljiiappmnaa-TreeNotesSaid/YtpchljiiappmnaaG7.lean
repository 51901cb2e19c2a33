/- Walks of Trim, the program's and the document's; their conditions stand in the theorems. -/
import Derived.Test.YtpchljiiappmnaaG1
import Derived.Test.YtpchljiiappmnaaG3
import Derived.Test.YtpchljiiappmnaaG6
import Derived.StillTailTactics
namespace Go.Proofs.Ytpchljiiappmnaa
open Go Go.RowKit

def dropBack (m : Bs) : Bs := (m.reverse.dropWhile cBlank).reverse
theorem trimB_eq (l : Bs) : trimB l = dropBack (l.dropWhile cBlank) := rfl
theorem dropWhile_all (l : Bs) (h : ∀ x ∈ l, cBlank x = true) : l.dropWhile cBlank = [] := by
  induction l with
  | nil => rfl
  | cons c l ih => rw [List.dropWhile_cons, h c (by simp), if_pos rfl]; exact ih fun x hx => h x (by simp [hx])
theorem drop_span (p : UInt8 → Bool) (l : Bs) : l.drop (span p l) = l.dropWhile p := by
  induction l with
  | nil => rfl
  | cons c l ih =>
    simp only [span, List.dropWhile]
    cases p c with
    | false => simp
    | true => simpa using ih
theorem dropBack_snoc (m : Bs) (c : UInt8) : dropBack (m ++ [c]) = if cBlank c then dropBack m else m ++ [c] := by
  unfold dropBack
  rw [List.reverse_append, List.reverse_singleton, List.singleton_append, List.dropWhile_cons]
  cases cBlank c <;> simp

set_option maxHeartbeats 1000000 in
theorem spanBlank_any (s : S) (w : World) (hs : s.size ≤ 9223372036854775807) :
    Calls Try.prog 103 #[.string s, .func (.func 104) #[] #[]] w fun e w' => e = .returned (.int .i64 (span cBlank s.data.toList)) ∧ w = w' := by
  have hsp := span_le (cBlank) s.data.toList
  rw [size_data] at hsp
  go_enter Try.func103, Try.ntmps103
  go_wp2
  go_loop [5] (fun i => ∃ k : Nat, k ≤ s.size ∧ i = .int .i64 k ∧ Hid (span cBlank s.data.toList = k + span cBlank (s.data.toList.drop k))) (fun i => s.size - (intOf i).toNat)
  case atStart => exact ⟨0, Nat.zero_le _, rfl, by show _ = _; simp⟩
  case round =>
    obtain ⟨k, hk, rfl, H⟩ := hrel
    by_cases hlt : k < s.size
    · have HD := Lib.hid (drop_byte s k hlt)
      cases hp : cBlank s[k]
      all_goals
        have HP := Lib.hid hp
        clear hp
        go_wp2_with (go_at_call 104; refine (isBlank_any _ _).mono ?_; rintro e w' ⟨rfl, rfl⟩; rw [HP.out])
      · go_ret
        exact ⟨ret_int (by rw [H.out, HD.out]; simp [span, HP.out]), rfl⟩
      · go_round
        case rel => exact ⟨k + 1, by omega, by go_num, by show _ = _; rw [H.out, HD.out]; simp only [span, HP.out, if_true]; omega⟩
        case measure => simp [intOf]; omega
    · go_wp2
      go_ret
      exact ⟨ret_int (by rw [H.out, List.drop_of_length_le (by rw [size_data]; omega)]; simp [span]), rfl⟩

theorem ext_trim (s : S) (a b : Nat) : (s.extract a b).data.toList = (s.data.toList.drop a).take (b - a) := by
  simp [ByteArray.data_extract, Array.toList_extract, List.extract_eq_take_drop]
theorem take_last (s : S) (k : Nat) (h : s.size = k + 1) : s.data.toList = s.data.toList.take k ++ [s[k]'(by rw [h]; exact Nat.lt_succ_self k)] := by
  have h0 : s.data.toList.drop (k + 1) = [] := List.drop_of_length_le (by rw [size_data]; omega)
  have h1 : s.data.toList.drop k = s[k] :: s.data.toList.drop (k + 1) := drop_byte s k (by rw [h]; exact Nat.lt_succ_self k)
  rw [h0] at h1
  rw [← h1, List.take_append_drop]
def sizeOfV (v : Value) : Nat := match v with | .string s => s.size | _ => 0

set_option maxHeartbeats 4000000 in
theorem trim_any (s : S) (w : World) (hs : s.size ≤ 1000000000) :
    Calls Try.prog 68 #[.string s] w fun e w' => ∃ x : S, e = .returned (.string x) ∧ x.data.toList = trimB s.data.toList ∧ w = w' := by
  have hsp := span_le cBlank s.data.toList
  rw [size_data] at hsp
  have HE : Hid (trimB s.data.toList = dropBack ((s.extract (span cBlank s.data.toList) s.size).data.toList)) := by
    show _ = _
    rw [ext_trim, trimB_eq, ← drop_span, List.take_of_length_le (by simp)]
  have HS := Lib.hid (spanBlank_any s)
  generalize span cBlank s.data.toList = n at *
  go_enter Try.func68, Try.ntmps68
  go_wp2_with (go_at_call 103; refine (HS.out _ (by omega)).mono ?_; rintro e w' ⟨rfl, rfl⟩)
  go_loop [0] (fun v => ∃ x : S, v = .string x ∧ x.size ≤ s.size ∧ Hid (trimB s.data.toList = dropBack x.data.toList)) (fun v => sizeOfV v)
  case atStart => exact ⟨_, rfl, by simp, HE⟩
  case round =>
    obtain ⟨x, rfl, hx, HX⟩ := hrel
    by_cases h0 : x.size = 0
    · have he : x.toList.isEmpty = true := by rw [empty_data]; simpa using h0
      have hd : x.data.toList = [] := List.eq_nil_of_length_eq_zero (by rw [size_data]; exact h0)
      have HD := Lib.hid hd
      clear hd
      go_wp2
      go_ret
      exact ⟨x, rfl, by rw [HX.out, HD.out]; rfl, rfl⟩
    · obtain ⟨k, hk⟩ : ∃ k, x.size = k + 1 := ⟨x.size - 1, by omega⟩
      have he : x.toList.isEmpty = false := by rw [empty_data]; simpa using h0
      have HT := Lib.hid (take_last x k hk)
      have hkx : k < x.size := by omega
      cases hp : cBlank x[k]
      all_goals
        have HP := Lib.hid hp
        clear hp
        go_wp2_with (go_at_call 104; refine (isBlank_any _ _).mono ?_; rintro e w' ⟨rfl, rfl⟩; rw [HP.out])
      · go_ret
        exact ⟨x, rfl, by rw [HX.out, HT.out, dropBack_snoc, HP.out]; simp, rfl⟩
      · go_round
        case rel => exact ⟨_, rfl, by simp; omega, by show _ = _; rw [HX.out, HT.out, dropBack_snoc, HP.out, if_pos rfl, ext_trim]; simp⟩
        case measure => simp [sizeOfV]; omega

theorem dropWhile_drop (l : Bs) (k : Nat) (c : UInt8) (r : Bs) (h : l.drop k = c :: r) (hb : ∀ x ∈ l.take k, cBlank x = true) (hc : cBlank c = false) : l.dropWhile cBlank = l.drop k := by
  rw [← List.take_append_drop k l, List.dropWhile_append_of_pos hb, List.take_append_drop, h, List.dropWhile_cons, hc]
  simp
theorem blanks_take {s : S} {k : Nat} (hk : k < s.size) (hb : ∀ x ∈ s.data.toList.take k, cBlank x = true) (hc : cBlank s[k] = true) : ∀ x ∈ s.data.toList.take (k + 1), cBlank x = true := by
  intro x hx
  have h1 : s.data.toList.take (k + 1) = s.data.toList.take k ++ [s[k]] := by
    rw [List.take_add_one, List.getElem?_eq_getElem (by rw [size_data]; exact hk)]; rfl
  rw [h1] at hx
  rcases List.mem_append.1 hx with h | h
  · exact hb x h
  · rw [List.mem_singleton.1 h]; exact hc
theorem trim_mid (l : Bs) (a b : Nat) (c : UInt8) (hab : a ≤ b) (hc : l[b]? = some c) : dropBack ((l.drop a).take (b + 1 - a)) = if cBlank c then dropBack ((l.drop a).take (b - a)) else (l.drop a).take (b + 1 - a) := by
  have h1 : (l.drop a).take (b + 1 - a) = (l.drop a).take (b - a) ++ [c] := by
    rw [show b + 1 - a = (b - a) + 1 by omega, List.take_add_one, List.getElem?_drop, show a + (b - a) = b by omega, hc]; rfl
  rw [h1, dropBack_snoc]

set_option maxHeartbeats 4000000 in
theorem refTrim_any (s : S) (w : World) (hs : s.size ≤ 1000000000) :
    Calls Try.prog 45 #[.string s] w fun e w' => ∃ x : S, e = .returned (.string x) ∧ x.data.toList = trimB s.data.toList ∧ w = w' := by
  go_enter Try.func45, Try.ntmps45
  go_wp2
  go_loop [3] (fun v => ∃ k : Nat, k ≤ s.size ∧ v = .int .i64 k ∧ Hid (∀ x ∈ s.data.toList.take k, cBlank x = true)) (fun v => s.size - (intOf v).toNat)
  case atStart => exact ⟨0, Nat.zero_le _, rfl, fun x hx => by simp at hx⟩
  case round =>
    obtain ⟨k, hk, rfl, HB⟩ := hrel
    by_cases hlt : k < s.size
    · cases hp : cBlank s[k]
      all_goals
        have HP := Lib.hid hp
        clear hp
        go_wp2_with (go_at_call 26; refine (is1_any _ _).mono ?_; rintro e w' ⟨rfl, rfl⟩; rw [HP.out])
      · have HT : Hid (trimB s.data.toList = dropBack ((s.data.toList.drop k).take (s.size - k))) := by
          show _ = _
          rw [trimB_eq, dropWhile_drop _ k _ _ (drop_byte s k hlt) HB.out HP.out, List.take_of_length_le (by simp)]
        clear HP HB
        go_loop [4] (fun v => ∃ q : Nat, k ≤ q ∧ q ≤ s.size ∧ v = .int .i64 q ∧ Hid (trimB s.data.toList = dropBack ((s.data.toList.drop k).take (q - k)))) (fun v => (intOf v).toNat)
        case atStart => exact ⟨s.size, hk, Nat.le_refl _, rfl, HT⟩
        case round =>
          obtain ⟨q, hkq, hq, rfl, HQ⟩ := hrel
          by_cases hlt2 : k < q
          · obtain ⟨z, rfl⟩ : ∃ z, q = z + 1 := ⟨q - 1, by omega⟩
            have hz : z < s.size := hq
            have hzI : ((z + 1 : Nat) : Int) - 1 = z := by omega
            have HM := Lib.hid (trim_mid s.data.toList k z s[z] (by omega) (by rw [List.getElem?_eq_getElem (by rw [size_data]; exact hz)]; rfl))
            cases hp : cBlank s[z]
            all_goals
              have HP := Lib.hid hp
              clear hp
              go_wp2_with (go_at_call 26; refine (is1_any _ _).mono ?_; rintro e w' ⟨rfl, rfl⟩; rw [HP.out])
            · go_ret
              exact ⟨_, rfl, by rw [HQ.out, HM.out, HP.out, ext_trim]; simp, rfl⟩
            · go_round
              case rel => exact ⟨z, by omega, by omega, by go_num, by show _ = _; rw [HQ.out, HM.out, HP.out, if_pos rfl]⟩
              case measure => simp [intOf]
          · obtain rfl : k = q := by omega
            go_wp2
            go_ret
            exact ⟨_, rfl, by rw [HQ.out]; simp [dropBack], rfl⟩
      · go_round
        case rel => exact ⟨k + 1, by omega, by go_num, blanks_take hlt HB.out HP.out⟩
        case measure => simp [intOf]; omega
    · obtain rfl : k = s.size := by omega
      go_wp2
      have HT : Hid (trimB s.data.toList = []) := by
        show _ = _
        have h1 := HB.out
        rw [List.take_of_length_le (by rw [size_data]; exact Nat.le_refl _)] at h1
        rw [trimB_eq, dropWhile_all _ h1]; rfl
      clear HB
      go_loop [4] (fun v => v = .int .i64 s.size) (fun _ => 0)
      case atStart => rfl
      case round =>
        subst hrel
        go_wp2
        go_ret
        exact ⟨_, rfl, by rw [HT.out]; simp, rfl⟩

end Go.Proofs.Ytpchljiiappmnaa

/- Walks of the builder's small functions; their conditions stand in the theorems. -/
namespace Go.Proofs.Ytpchljiiappmnaa
open Go Go.RowKit
variable {lo : Nat}

theorem node_ptr : 54 ≠ 124 := by decide
/-- The pointers' last one. -/
theorem snoc_get (qs : List (Nat × Nat)) (p : Nat × Nat) : (qs.reverse ++ [p])[qs.length]? = some p := by simp

set_option maxHeartbeats 4000000 in
theorem top_any {w : World} {B : Nat} {f : Fr} {fs : List Fr} {r : Option Tr} {X : Nat → Prop} {ov : Value} {qs : List (Nat × Nat)} {b o : Nat} {c d t : Value} (h : Core 54 124 lo w B (f :: fs) r X ov (qs.reverse ++ [(b, o)]) c d t) :
    Calls Try.prog 100 #[.pointer (some ⟨B, 0, none⟩)] w (Qt (.pointer (some ⟨b, o, none⟩)) w) := by
  obtain ⟨g, cap, rfl, hc, hm, hg, hp⟩ := h.opn.at (snoc_get qs (b, o))
  have hlt := h.lt
  have c4 := h.c4
  have hql : (qs.reverse ++ [(b, o)]).length = qs.length + 1 := by simp
  rw [hql] at c4 hc
  generalize qs.length = n at *
  clear h hql
  have hn1 : IntKind.i64.wrap (n : Int) = n := IntWalk.i64_in _ (by unfold maxLen at hm; omega)
  have hn3 : (n : Int) < (n : Int) + 1 := by omega
  have hn4 : (0 : Int) ≤ n := by omega
  have hn2 : (n : Int) < ((n + 1 : Nat) : Int) := by omega
  go_enter Try.func100, Try.ntmps100
  go_wp2
  go_quiet (fail)
  go_wp2
  go_ret
  exact ⟨rfl, _, rfl⟩

set_option maxHeartbeats 4000000 in
theorem one_any (w : World) (B n : Nat) (c5 : w.cell? ⟨B, 5, none⟩ = some (.int .i64 n)) (hf : w.frozen? ⟨B, 5, none⟩ = false) (hn : n ≤ 1000000) :
    Calls Try.prog 123 #[.pointer (some ⟨B, 0, none⟩)] w fun e w' => e = .returned (.bool (decide (n + 1 ≤ 4096))) ∧ w' = w.setCell ⟨B, 5, none⟩ (.int .i64 (n + 1 : Nat)) := by
  have hw : IntKind.i64.wrap ((n : Int) + 1) = (n : Int) + 1 := IntWalk.i64_in _ (by omega)
  go_enter Try.func123, Try.ntmps123
  go_wp2
  go_ret
  refine ⟨ret_bool ?_, rfl⟩
  rw [decide_eq_decide]; omega

/-- The blocks of a world behind another one: those from B on may have turned. -/
theorem below_set {B : Nat} {w w' : World} (h : Below B w w') (b j : Nat) (v : Value) (hb : B ≤ b) : Below B w (w'.setCell ⟨b, j, none⟩ v) := h.setCell (by exact hb) v

set_option maxHeartbeats 4000000 in
set_option maxRecDepth 100000 in
theorem end_any {w : World} {B : Nat} {f : Fr} {fs : List Fr} {X : Nat → Prop} {ov : Value} {ps : List (Nat × Nat)} {c d t : Value} (h : Core 54 124 lo w B (f :: fs) none X ov ps c d t) :
    Calls Try.prog 99 #[.pointer (some ⟨B, 0, none⟩)] w fun e w' => e = .returned (.tuple #[]) ∧ ∃ X' ov' ps', Core 54 124 lo w' B (closeB f fs none 0).stack (closeB f fs none 0).root X' ov' ps' c (.bool (closeB f fs none 0).root.isSome) (.bool false) ∧ Below B w w' := by
  obtain ⟨b, o, L, av, kv, qs, rfl, inn, up⟩ : ∃ b o L av kv qs, ps = qs.reverse ++ [(b, o)] ∧ Inner 54 X w b o f L av kv ∧ Up 54 B X w b o fs qs := by
    cases h.tree with
    | inside L av kv inn up => exact ⟨_, _, L, av, kv, _, rfl, inn, up⟩
  obtain ⟨g, cap, rfl, hc, hm, hg, hp⟩ := h.opn.at (snoc_get qs (b, o))
  have hql : (qs.reverse ++ [(b, o)]).length = qs.length + 1 := by simp
  have hfs := up.len
  rw [hql] at h hc
  have hlt := h.lt
  have c4 := h.c4
  have f4 := h.f 4
  have c6 := h.c6
  have c7 := h.c7
  have f6 := h.f 6
  have f7 := h.f 7
  have HP := Lib.hid fun W (hW : W = w.drew) => (by rw [hW]; exact Core.pop node_ptr (h.drewN 1) (inn.keep (KeptX.below (belowN (Below.refl _ w) 1)) (fun _ _ h => h) (fun _ _ => rfl) (fun _ _ => rfl) (fun k hk => hk.elim (fun e => e ▸ inn.xb) (fun e => inn.blk k e))) (up.keep (KeptX.below (belowN (Below.refl _ w) 1)) (fun _ _ h => h) (fun _ _ _ h => h) (fun _ _ _ => rfl) (fun _ _ _ _ _ _ => rfl) (fun _ _ => rfl) (fun _ _ _ _ h => h)) 0 :
    Core 54 124 lo (W.setCell ⟨B, 4, none⟩ (.slice (some ⟨g, 0, none⟩) qs.length qs.length)) B (closeB f fs none 0).stack (closeB f fs none 0).root (fun k => X k ∧ kv.ownBlock ≠ some k) (.slice (some ⟨g, 0, none⟩) qs.length qs.length) qs.reverse c d t)
  have hroot : (closeB f fs none 0).root.isSome = decide ((qs.length : Int) = 0) := by
    rw [hfs]
    cases fs with
    | nil => rfl
    | cons g l => simp [closeB]; omega
  have HR := Lib.hid hroot
  clear h inn up hp hql hfs hroot
  generalize qs.length = n at *
  have hn1 : IntKind.i64.wrap (n : Int) = n := IntWalk.i64_in _ (by unfold maxLen at hm; omega)
  have hn3 : (n : Int) < (n : Int) + 1 := by omega
  have hn4 : (0 : Int) ≤ n := by omega
  have hn5 : n ≤ cap := by omega
  go_enter Try.func99, Try.ntmps99
  go_wp2
  go_still_tail 18, (by kernel_rfl)
  change wpList _ _ _ _ _ w.drew
  go_wp2
  go_end0
  have h1 := ((HP.out w.drew rfl).set6 (.bool (decide ((n : Int) = 0)))).set7 (.bool false)
  exact ⟨rfl, _, _, _, by rw [HR.out]; exact h1, below_set (below_set (below_set (belowN (Below.refl B w) 1) B 4 _ (Nat.le_refl _)) B 6 _ (Nat.le_refl _)) B 7 _ (Nat.le_refl _)⟩

end Go.Proofs.Ytpchljiiappmnaa
