/- The walks of At and Has; its conditions stand in the theorems. -/
import Derived.Test.YtnhophaeimpkkaaT7
import Derived.WalkKit
import Derived.WalkSpells
import Derived.WalkLawsBesides
namespace Go.Proofs.Ytnhophaeimpkkaa
open Go Go.RowKit

attribute [local go_sem ↓] eqg_prp neq_prp eql_key eqg_key

theorem at_ge (i : Nat) (l : List Prp) (n : S) : at_ i l n = -1 ∨ ∃ k, i ≤ k ∧ k < i + l.length ∧ at_ i l n = (k : Int) := by
  induction l generalizing i with
  | nil => left; rfl
  | cons p l ih =>
    simp only [at_]
    split
    · right; exact ⟨i, Nat.le_refl _, by simp, rfl⟩
    · rcases ih (i + 1) with h | ⟨k, h1, h2, h3⟩
      · left; exact h
      · right; exact ⟨k, by omega, by simp; omega, h3⟩

def put : List Prp → Prp → List Prp
  | [], p => [p]
  | x :: l, p => if x.name = p.name then ⟨x.name, p.value⟩ :: l else x :: put l p

theorem put_none (i : Nat) (l : List Prp) (p : Prp) (h : at_ i l p.name = -1) : put l p = l ++ [p] := by
  induction l generalizing i with
  | nil => rfl
  | cons x l ih =>
    simp only [at_] at h
    split at h
    · omega
    · rename_i hn; simp only [put, if_neg hn, List.cons_append, ih _ h]

theorem put_some (i : Nat) (l : List Prp) (p : Prp) (k : Nat) (h : at_ i l p.name = (k : Int)) : i ≤ k ∧ ∃ x, l[k - i]? = some x ∧ put l p = l.set (k - i) ⟨x.name, p.value⟩ := by
  induction l generalizing i with
  | nil => simp [at_] at h
  | cons x l ih =>
    simp only [at_] at h
    split at h
    · rename_i hn
      have : i = k := by omega
      subst this
      exact ⟨Nat.le_refl _, x, by simp, by simp [put, hn]⟩
    · rename_i hn
      obtain ⟨h1, y, h2, h3⟩ := ih _ h
      have e : k - i = (k - (i + 1)) + 1 := by omega
      exact ⟨by omega, y, by rw [e]; simpa using h2, by rw [e]; simp [put, hn, h3]⟩

theorem put_len (l : List Prp) (p : Prp) : (put l p).length ≤ l.length + 1 := by
  induction l with
  | nil => simp [put]
  | cons x l ih =>
    simp only [put]; split
    · simp
    · simpa using ih

set_option maxHeartbeats 400000 in
theorem refAt_any (l : List Prp) (n : S) (v : Value) (w : World) (hs : SliceOf 2 prpC w v l) (hl : l.length ≤ 140737488355328) :
    Calls Try.prog 12 #[v, .string n] w fun e w' => e = .returned (.int .i64 (at_ 0 l n)) ∧ Below w.heap.size w w' := by
  obtain ⟨ao, cap, rfl⟩ := hs.shape
  go_enter Try.func12, Try.ntmps12
  go_wp2
  go_loopw [4, 9] (fun _ i wr => ∃ k : Nat, k ≤ l.length ∧ i = .int .i64 k ∧ Hid (at_ 0 l n = at_ k (l.drop k) n) ∧ Below w.heap.size w wr) (fun _ i _ => l.length - (intOf i).toNat)
  case atStart => exact ⟨0, Nat.zero_le _, rfl, rfl, Below.refl _ _⟩
  case round =>
    obtain ⟨k, hk, rfl, H, hb⟩ := hrel
    have hsz := hb.size
    by_cases hlt : k < l.length
    · obtain ⟨b, o, rfl, -, h0, h1⟩ := (hs.below hb).atPrp hlt
      have hd := Lib.hid (drop_cons' hlt)
      clear hs
      generalize l[k] = x at *
      by_cases hn : x.name = n
      · have hq : (x.name.toList == n.toList) = true := by rw [str_beq]; simpa using hn
        have Hn := Lib.hid hn
        clear hn
        go_wp2
        go_ret
        exact ⟨ret_int (by rw [H.out, hd.out]; simp [at_, Hn.out]), hb.alloc (by omega) _⟩
      · have hq : (x.name.toList == n.toList) = false := by rw [str_beq]; simpa using hn
        have Hn := Lib.hid hn
        clear hn
        go_wp2
        go_roundw
        case rel => exact ⟨k + 1, by omega, by go_num, by show _ = _; rw [H.out, hd.out]; simp [at_, Hn.out], hb.alloc (by omega) _⟩
        case measure => simp [intOf]; omega
    · go_wp2
      go_ret
      exact ⟨ret_int (by rw [H.out, List.drop_of_length_le (by omega)]; rfl), hb⟩

theorem key_eq (d : Dep) (a b c e : S) : decide (keyOf d = ⟨a, b, c, e⟩) = (decide (d.group = a) && decide (d.artifact = b) && decide ((keyOf d).type = c) && decide (d.classifier = e)) := by
  have : (keyOf d = ⟨a, b, c, e⟩) ↔ (((d.group = a ∧ d.artifact = b) ∧ (keyOf d).type = c) ∧ d.classifier = e) := by
    simp [keyOf, and_assoc]
  simp [this]

set_option maxHeartbeats 400000 in
theorem has_any (l : List (Dep × Value)) (key : Key) (v : Value) (w : World) (hs : SliceOf 8 depC w v l) (hok : ∀ p ∈ l, DepOk w p) (hl : l.length ≤ 140737488355328) :
    Calls Try.prog 15 #[v, .agg (keyC key).toArray] w fun e w' => e = .returned (.bool (has (l.map (·.1)) key)) ∧ Below w.heap.size w w' := by
  obtain ⟨ao, cap, rfl⟩ := hs.shape
  obtain ⟨kg, ka, kt, kc⟩ := key
  simp only [keyC]
  go_enter Try.func15, Try.ntmps15
  go_wp2
  go_loopw [4, 9] (fun _ i wr => ∃ k : Nat, k ≤ l.length ∧ i = .int .i64 k ∧ Hid (has (l.map (·.1)) ⟨kg, ka, kt, kc⟩ = has ((l.drop k).map (·.1)) ⟨kg, ka, kt, kc⟩) ∧ Below w.heap.size w wr ∧ Box wr w.heap.size [.string kg, .string ka, .string kt, .string kc]) (fun _ i _ => l.length - (intOf i).toNat)
  case atStart => exact ⟨0, Nat.zero_le _, rfl, rfl, (Below.refl _ _).alloc (Nat.le_refl _) _, Box.new w _ _ _ rfl⟩
  case round =>
    obtain ⟨k, hk, rfl, H, hb, hx⟩ := hrel
    have hsz := hb.size
    have hxl := hx.lt
    by_cases hlt : k < l.length
    · have hok' := (hok l[k] (by simp)).below hb
      obtain ⟨b, o, rfl, hbl, c0, c1, c2, c3, c4, c5, c6, c7⟩ := (hs.below hb).atDep hlt
      have hd := Lib.hid (drop_cons' hlt)
      clear hs hok
      generalize l[k] = q at *
      obtain ⟨qd, qx⟩ := q
      obtain ⟨ao4, cap4, rfl⟩ := hok'.shape
      simp only at c0 c1 c2 c3 c4 c5 c6 c7
      go_wp2
      have hy : Box _ _ _ := Box.new wr (depC (qd, .slice ao4 qd.excl.length cap4)) 34 wr.heap.size rfl
      have hx2 : Box _ _ _ := hx.alloc (.cells (depC (qd, .slice ao4 qd.excl.length cap4)).toArray 34)
      have hB2 := hb.alloc (by omega) (.cells (depC (qd, .slice ao4 qd.excl.length cap4)).toArray 34)
      simp only [depC] at hy hx2 hB2
      generalize wr.alloc (.cells #[.string qd.group, .string qd.artifact, .string qd.version, .string qd.type, .string qd.classifier, .int .i64 qd.scope, .int .i64 qd.opt, .slice ao4 qd.excl.length cap4] 34) = w2 at *
      have e0 := hy.cell 0 _ rfl
      have e1 := hy.cell 1 _ rfl
      have e2 := hy.cell 2 _ rfl
      have e3 := hy.cell 3 _ rfl
      have e4 := hy.cell 4 _ rfl
      have e5 := hy.cell 5 _ rfl
      have e6 := hy.cell 6 _ rfl
      have e7 := hy.cell 7 _ rfl
      have k0 := hx2.cell 0 _ rfl
      have k1 := hx2.cell 1 _ rfl
      have k2 := hx2.cell 2 _ rfl
      have k3 := hx2.cell 3 _ rfl
      have hyl := hy.lt
      have hxl2 := hx2.lt
      have hL := @Later.cells w2
      cases hq4 : (decide (qd.group = kg) && decide (qd.artifact = ka) && decide ((keyOf qd).type = kt) && decide (qd.classifier = kc))
      all_goals
        refine region_later (by kernel_rfl) (by kernel_rfl) ?_
        repeat (go_big_quiet_step ((go_at_call 16; exact Later.call (v := .agg #[.string qd.group, .string qd.artifact, .string (keyOf qd).type, .string qd.classifier]) (refKey_any qd (.slice ao4 qd.excl.length cap4) _))))
        refine wpQuiet_nil ?_
        rintro _ ⟨nx, rfl⟩
        go_wp2
      · go_roundw
        case rel => exact ⟨k + 1, by omega, by go_num, by show _ = _; rw [H.out, hd.out]; simp only [List.map_cons, has, key_eq, hq4, Bool.false_or], hB2.trans (nx.below.mono hB2.size), hx2.below nx.below hxl2⟩
        case measure => simp [intOf]; omega
      · go_ret
        exact ⟨ret_bool (by rw [H.out, hd.out]; simp only [List.map_cons, has, key_eq, hq4, Bool.true_or]), hB2.trans (nx.below.mono hB2.size)⟩
    · go_wp2
      go_ret
      exact ⟨ret_bool (by rw [H.out, List.drop_of_length_le (by omega)]; rfl), hb⟩

end Go.Proofs.Ytnhophaeimpkkaa
