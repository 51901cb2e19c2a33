/- The walks of prop.at, Put, Over; its conditions stand in the theorems. -/
import Derived.Test.YtnhophaeimpkkaaT9
import Derived.WalkKit
import Derived.WalkSpells
import Derived.WalkLawsBesides
namespace Go.Proofs.Ytnhophaeimpkkaa
open Go Go.RowKit

set_option maxHeartbeats 400000 in
theorem at1_any (p : Prp) (n : S) (bn : Nat) (w : World) (hn : w.cell? ⟨bn, 0, none⟩ = some (.string n)) (hbn : bn < w.heap.size) :
    Calls Try.prog 50 #[.agg (prpC p).toArray, .pointer (some ⟨bn, 0, none⟩)] w fun e w' => e = .returned (.bool (decide (p.name = n))) ∧ Below w.heap.size w w' := by
  obtain ⟨pn, pv⟩ := p
  simp only [prpC]
  have hne : ¬ w.heap.size = bn := by omega
  have hn2 : (w.alloc (.cells #[.string pn, .string pv] 36)).cell? ⟨bn, 0, none⟩ = some (.string n) := by
    rw [World.cell?_alloc_past _ _ _ (by exact hbn)]; exact hn
  go_enter Try.func50, Try.ntmps50
  go_wp2
  go_ret
  exact ⟨ret_bool (by rw [str_beq]), (Below.refl _ _).alloc (Nat.le_refl _) _⟩

set_option maxHeartbeats 400000 in
theorem indexFunc_any (l : List Prp) (n : S) (bn : Nat) (v : Value) (w : World) (hs : SliceOf 2 prpC w v l) (hl : l.length ≤ 140737488355328) (hn : w.cell? ⟨bn, 0, none⟩ = some (.string n)) (hbn : bn < w.heap.size) :
    Calls Try.prog 49 #[v, .func (.func 50) #[] #[.pointer (some ⟨bn, 0, none⟩)]] w fun e w' => e = .returned (.int .i64 (at_ 0 l n)) ∧ Below w.heap.size w w' := by
  obtain ⟨ao, cap, rfl⟩ := hs.shape
  go_enter Try.func49, Try.ntmps49
  go_wp2
  go_loopw [4, 8] (fun _ i wr => ∃ k : Nat, k ≤ l.length ∧ i = .int .i64 k ∧ Hid (at_ 0 l n = at_ k (l.drop k) n) ∧ Below w.heap.size w wr) (fun _ i _ => l.length - (intOf i).toNat)
  case atStart => exact ⟨0, Nat.zero_le _, rfl, rfl, Below.refl _ _⟩
  case round =>
    obtain ⟨k, hk, rfl, H, hb⟩ := hrel
    have hsz := hb.size
    by_cases hlt : k < l.length
    · obtain ⟨b, o, rfl, -, h0, h1⟩ := (hs.below hb).atPrp hlt
      have hd := Lib.hid (drop_cons' hlt)
      have hn2 := (hb.cell (by exact hbn)).trans hn
      clear hs hn
      generalize l[k] = x at *
      have Hn2 := Lib.hid hn2
      clear hn2
      cases hxn : decide (x.name = n)
      all_goals
        have Hx := Lib.hid hxn
        clear hxn
        go_wp2_with (go_at_call 50; refine (at1_any x n bn _ Hn2.out (by omega)).mono ?_; rintro e w' ⟨rfl, hb2⟩; rw [Hx.out])
      · go_roundw
        case rel => exact ⟨k + 1, by omega, by go_num, by show _ = _; rw [H.out, hd.out]; simp only [at_]; rw [if_neg (of_decide_eq_false Hx.out)], hb.trans (hb2.mono hsz)⟩
        case measure => simp [intOf]; omega
      · go_ret
        exact ⟨ret_int (by rw [H.out, hd.out]; simp only [at_]; rw [if_pos (of_decide_eq_true Hx.out)]), hb.trans (hb2.mono hsz)⟩
    · go_wp2
      go_ret
      exact ⟨ret_int (by rw [H.out, List.drop_of_length_le (by omega)]; rfl), hb⟩

set_option maxHeartbeats 400000 in
theorem propAt_any (l : List Prp) (n : S) (v : Value) (w : World) (hs : SliceOf 2 prpC w v l) (hl : l.length ≤ 140737488355328) :
    Calls Try.prog 31 #[v, .string n] w fun e w' => e = .returned (.int .i64 (at_ 0 l n)) ∧ Below w.heap.size w w' := by
  have hmf : ∀ (fn : Fn) (first cap : Array Value) (w : World), (Instr.makeFunc fn first cap).run Try.prog w = .ok (.func fn first cap) w := fun _ _ _ _ => rfl
  have hb0 := (Below.refl w.heap.size w).alloc (Nat.le_refl _) (.cells #[.string n] 9)
  have hx0 : Box _ _ _ := Box.new w [.string n] 9 w.heap.size rfl
  go_enter Try.func31, Try.ntmps31
  go_wp2_with (go_at_call 49; refine (indexFunc_any l n w.heap.size _ _ (hs.below (by exact hb0)) hl (by exact hx0.cell 0 _ rfl) (by simp)).mono ?_; rintro e w' ⟨rfl, hb2⟩)
  go_ret
  exact ⟨rfl, hb0.trans (hb2.mono hb0.size)⟩

set_option maxHeartbeats 400000 in
theorem propPut_any (l : List Prp) (pn pv : S) (v : Value) (w : World) (hs : SliceOf 2 prpC w v l) (hl : Hid ((l.length + 1) * 32 ≤ 140737488355328)) :
    Calls Try.prog 48 #[v, .string pn, .string pv] w (RetOwn 36 2 prpC (put l ⟨pn, pv⟩) w) := by
  obtain ⟨ao, cap, rfl⟩ := hs.shape
  have hl2 : l.length ≤ 140737488355328 := by have := hl.out; omega
  have Hl2 := Lib.hid hl2
  clear hl2
  rcases at_ge 0 l pn with hat | ⟨k, -, hk, hat⟩
  all_goals
    have Hat := Lib.hid hat
    clear hat
    go_enter Try.func48, Try.ntmps48
    go_wp2_with fail
    refine (clonePrp_any l _ w hs (by have := hl.out; omega)).mono ?_
    intro e w1 hR
    obtain ⟨v1, rfl, hown, hb1⟩ := hR
    have hsl := hown.slice prpC_len
    obtain ⟨ao1, cap1, rfl⟩ := hown.shape
    go_wp2_with fail
    refine (propAt_any l pn _ _ hsl Hl2.out).mono ?_
    rintro e w2 ⟨rfl, hb2⟩
    rw [Hat.out]
    have hown2 := hown.below hb2
    have hb3 := hb1.trans (hb2.mono hb1.size)
    have hsz := hb3.size
    clear hown hsl hb1 hb2
  · go_wp2_with (at_builtin; refine wpList_append_slice _ rfl _ _ 24 rfl w.heap.size 36 Try.underlying24 info_prp rfl (by decide) prpC_len (.slice ao1 l.length cap1) l rfl (hown2.alloc _) _ [⟨pn, pv⟩] rfl (sliceLit prpC_len w2 [⟨pn, pv⟩] _ _ 1 rfl rfl (by simp [maxLen])) (fun y _ => prpC_one y) (by have := hl.out; simp; omega) (by decide) (by simp; omega) ?_; intro v3 w3 hown3 hgrow3 hloc3)
    go_wp2
    go_ret
    refine ⟨v3, rfl, ?_, (hb3.alloc (by omega) _).grown hgrow3 (by simp; omega) (fun k hk => (hown2.lt k hk).1)⟩
    rw [put_none 0 l ⟨pn, pv⟩ Hat.out]
    exact hown3
  · obtain ⟨-, x, hx, hput⟩ := put_some 0 l ⟨pn, pv⟩ k Hat.out
    simp only [Nat.sub_zero] at hx hput
    obtain ⟨g, rfl, hg, hgl, q0, q1, hst⟩ := own_prp_store hown2 hx
    have Hput := Lib.hid hput
    clear hput hx
    have hkl : k < l.length := by omega
    go_wp2
    go_ret
    refine ⟨_, rfl, ?_, hb3.setCell hg _⟩
    rw [Hput.out]
    have h := hst pv
    rw [List.length_set] at h
    exact h

def over (l more : List Prp) : List Prp := more.foldl put l
theorem over_len (l more : List Prp) : (over l more).length ≤ l.length + more.length := by
  induction more generalizing l with
  | nil => simp [over]
  | cons p more ih => have := ih (put l p); have h2 := put_len l p; simp only [over, List.foldl_cons, List.length_cons] at *; omega
theorem over_take (l more : List Prp) (k : Nat) (h : k < more.length) : over l (more.take (k + 1)) = put (over l (more.take k)) more[k] := by
  rw [List.take_succ_eq_append_getElem h]; simp only [over, List.foldl_append, List.foldl_cons, List.foldl_nil]

set_option maxHeartbeats 400000 in
theorem over_any (l more : List Prp) (v u : Value) (w : World) (hs : SliceOf 2 prpC w v l) (hm : SliceOf 2 prpC w u more) (hl : Hid ((l.length + more.length + 1) * 32 ≤ 140737488355328)) :
    Calls Try.prog 28 #[v, u] w (RetOwn 36 2 prpC (over l more) w) := by
  obtain ⟨ao, cap, rfl⟩ := hs.shape
  obtain ⟨ao2, cap2, rfl⟩ := hm.shape
  have hml : more.length ≤ 140737488355328 := by have := hl.out; omega
  go_enter Try.func28, Try.ntmps28
  go_wp2_with fail
  refine (clonePrp_any l _ w hs (by have := hl.out; omega)).mono ?_
  intro e w1 hR
  obtain ⟨v1, rfl, hown, hb1⟩ := hR
  go_wp2
  go_loopw [5, 12] (fun v i wr => ∃ k : Nat, k ≤ more.length ∧ i = .int .i64 k ∧ Owns w.heap.size 36 2 prpC wr v (over l (more.take k)) ∧ Below w.heap.size w wr) (fun _ i _ => more.length - (intOf i).toNat)
  case atStart => exact ⟨0, Nat.zero_le _, rfl, hown, hb1⟩
  case round =>
    clear hown hb1
    obtain ⟨k, hk, rfl, hown, hb⟩ := hrel
    have hsz := hb.size
    by_cases hlt : k < more.length
    · obtain ⟨b, o, rfl, -, h0, h1⟩ := (hm.below hb).atPrp hlt
      have hstep := Lib.hid (over_take l more k hlt)
      have hlen := over_len l (more.take k)
      have hlen2 : (more.take k).length = k := by simp; omega
      have hbd : Hid (((over l (more.take k)).length + 1) * 32 ≤ 140737488355328) := by
        show _ ≤ _
        have := hl.out
        have h3 : (over l (more.take k)).length + 1 ≤ l.length + more.length + 1 := by omega
        exact Nat.le_trans (Nat.mul_le_mul_right 32 h3) this
      have hsl := hown.slice prpC_len
      obtain ⟨ao3, cap3, he⟩ := hown.shape
      clear hs hm hlen hlen2
      generalize over l (more.take k) = cur at *
      subst he
      generalize more[k] = x at *
      obtain ⟨xn, xv⟩ := x
      simp only at h0 h1
      go_wp2_with (go_at_call 48; refine (propPut_any cur xn xv _ _ (hsl.below ((Below.refl _ _).alloc (Nat.le_refl _) _)) hbd).mono ?_; intro e w' hR; obtain ⟨v', rfl, hown', hbel⟩ := hR)
      go_roundw
      case rel => exact ⟨k + 1, by omega, by go_num, by rw [hstep.out]; exact hown'.base_mono (by simp; omega), (hb.alloc (by omega) _).trans (hbel.mono (by simp; omega))⟩
      case measure => simp [intOf]; omega
    · go_wp2
      go_ret
      exact ⟨_, rfl, by rw [List.take_of_length_le (by omega)] at hown; exact hown, hb⟩

end Go.Proofs.Ytnhophaeimpkkaa
