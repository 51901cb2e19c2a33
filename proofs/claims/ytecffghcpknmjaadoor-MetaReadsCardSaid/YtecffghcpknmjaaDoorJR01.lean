/- The walk of the document's rank; the conditions stand in the theorem. -/
import Derived.Test.YtecffghcpknmjaaDoorV9
import Derived.Test.YtecffghcpknmjaaDoorQB
import Derived.LoopTactic
import Derived.Test.YtecffghcpknmjaaDoorL0
import Derived.Test.YtecffghcpknmjaaDoorV8
import Derived.Test.YtecffghcpknmjaaDoorSB
import Derived.Deep.CutRange
namespace Go.Proofs.YtecffghcpknmjaaDoor
open Go Go.RowKit

def wordsD : List Bs := [wAlpha, wBeta, wMilestone, wRc, wSnapshot, wGa, wSp]
theorem rankD_at (hy : Bool) : ∀ (k : Nat) (t : Bs), wordsD[k]? = some t → t ≠ wGa → rankV ⟨hy, false, t⟩ = k
  | 0, t, h, _ => by cases h; rfl
  | 1, t, h, _ => by cases h; rfl
  | 2, t, h, _ => by cases h; rfl
  | 3, t, h, _ => by cases h; rfl
  | 4, t, h, _ => by cases h; rfl
  | 5, t, h, g => by cases h; exact absurd rfl g
  | 6, t, h, _ => by cases h; rfl
  | k + 7, t, h, _ => by simp [wordsD] at h
theorem rankD_no (hy : Bool) (t : Bs) (h0 : t ≠ []) (h : ∀ (j : Nat) (x : Bs), wordsD[j]? = some x → x ≠ t) : rankV ⟨hy, false, t⟩ = 7 := by
  have a0 := h 0 _ rfl
  have a1 := h 1 _ rfl
  have a2 := h 2 _ rfl
  have a3 := h 3 _ rfl
  have a4 := h 4 _ rfl
  have a6 := h 6 _ rfl
  unfold rankV wordsV
  simp [List.findIdx?_cons, Ne.symm a0, Ne.symm a1, Ne.symm a2, Ne.symm a3, Ne.symm a4, Ne.symm a6, h0]
theorem bs_toList (t : Bs) : (bs t).toList = t := by rw [ByteArray.toList_eq]; simp [bs]
def wordsL : List Value := wordsD.map fun t => .string (bs t)
set_option maxRecDepth 100000 in
set_option maxHeartbeats 4000000 in
theorem refRank_any (p : PartV) (hga : p.number = false → p.text ≠ wGa) (w : World) : Calls Tryd.prog 41 #[.agg (docC p).toArray] w fun e w' => e = .returned (.int .i64 (rankV p)) ∧ Below w.heap.size w w' := by
  obtain ⟨hy, nm, t⟩ := p
  simp only at hga
  have he : ((bs t).toList == []) = t.isEmpty := by rw [bs_toList]; cases t <;> rfl
  have he2 : (bs t).toList.isEmpty = t.isEmpty := by rw [bs_toList]
  cases ht : t.isEmpty with
  | true =>
    have h0 : t = [] := List.isEmpty_iff.1 ht
    have HV : Hid (rankV ⟨hy, nm, t⟩ = 5) := by
      show _ = _
      subst h0
      cases nm <;> rfl
    rw [ht] at he he2
    rw [HV.out]
    clear HV ht h0 hga
    unfold docC
    go_enter Tryd.func41, Tryd.ntmps41
    go_wp2
    go_ret
    exact ⟨rfl, (Below.refl _ _).alloc (Nat.le_refl _) _⟩
  | false =>
    have h0 : t ≠ [] := fun e => by rw [e] at ht; cases ht
    rw [ht] at he he2
    cases nm with
    | true =>
      have HV : Hid (rankV ⟨hy, true, t⟩ = if hy then 8 else 9) := by show _ = _; unfold rankV; simp only [if_true]; rw [if_neg (by rw [ht]; simp)]
      rw [HV.out]
      clear HV ht h0 hga
      unfold docC
      cases hy
      all_goals
        go_enter Tryd.func41, Tryd.ntmps41
        go_wp2
        go_ret
        exact ⟨rfl, (Below.refl _ _).alloc (Nat.le_refl _) _⟩
    | false =>
      have HAT : Hid (∀ (k : Nat) (x : Bs), wordsD[k]? = some x → x = t → rankV ⟨hy, false, t⟩ = k) := fun k x h e => by subst e; exact rankD_at hy k _ h (hga rfl)
      have HNO : Hid ((∀ (j : Nat) (x : Bs), wordsD[j]? = some x → x ≠ t) → rankV ⟨hy, false, t⟩ = 7) := fun h => rankD_no hy t h0 h
      generalize rankV ⟨hy, false, t⟩ = R at *
      clear ht h0 hga
      unfold docC
      go_enter Tryd.func41, Tryd.ntmps41
      go_upto_region 5 with fail
      refine wp_world ?_
      intro W hW
      have x1 : Box W w.heap.size [.bool true, .bool hy, .string (bs t)] := by rw [hW]; exact (Box.new w [.bool true, .bool hy, .string (bs t)] _ _ rfl).alloc _
      have y1 : Box W (w.heap.size + 1) wordsL := by rw [hW]; exact Box.new _ wordsL _ _ (by simp)
      have hb : Below w.heap.size w W := by rw [hW]; exact ((Below.refl _ w).alloc (Nat.le_refl _) _).alloc (by simp) _
      clear hW
      have HY := Lib.hid y1
      have HB := Lib.hid hb
      have x2 := x1.cell 2 _ rfl
      have xl := x1.lt
      have yl := y1.lt
      clear x1 y1 hb
      go_wp2
      go_loopw [14] (fun i wr => ∃ k : Nat, i = .int .i64 k ∧ k ≤ 7 ∧ W = wr ∧ Hid (∀ (j : Nat) (x : Bs), j < k → wordsD[j]? = some x → x ≠ t)) (fun i _ => 7 - (intOf i).toNat)
      case atStart => exact ⟨0, rfl, Nat.zero_le _, rfl, fun j x h => by omega⟩
      case round =>
        obtain ⟨k, rfl, hk, rfl, HN⟩ := hrel
        by_cases hlt : k < 7
        · have d1 : (k : Int) < 7 := by omega
          obtain ⟨x, hx⟩ : ∃ x, wordsD[k]? = some x := ⟨_, List.getElem?_eq_getElem (by exact hlt)⟩
          have c1 := HY.out.cell k (.string (bs x)) (by unfold wordsL; rw [List.getElem?_map, hx]; rfl)
          have hq : ((bs t).toList == (bs x).toList) = decide (x = t) := by
            rw [bs_toList, bs_toList]
            by_cases e : x = t
            · rw [decide_eq_true e, beq_iff_eq]; exact e.symm
            · rw [decide_eq_false e, beq_eq_false_iff_ne]; exact fun h => e h.symm
          have HX := Lib.hid hx
          have wk : IntKind.i64.wrap ((k : Int) + 1) = (k : Int) + 1 := IntWalk.i64_in _ (by omega)
          clear hx
          by_cases hxt : x = t
          · rw [decide_eq_true hxt] at hq
            have HR := Lib.hid (HAT.out k x HX.out hxt)
            clear hxt
            go_wp2
            go_ret
            exact ⟨by rw [HR.out]; rfl, HB.out⟩
          · rw [decide_eq_false hxt] at hq
            have HXT := Lib.hid hxt
            clear hxt
            go_wp2
            go_roundw
            case rel =>
              refine ⟨k + 1, by first | rfl | go_num, hlt, (by trivial), fun j y hj hy => ?_⟩
              by_cases hjk : j = k
              · subst hjk; rw [HX.out] at hy; cases hy; exact HXT.out
              · exact HN.out j y (by omega) hy
            case measure => simp [intOf]; omega
        · have d1 : ¬ (k : Int) < 7 := by omega
          have HR : Hid (R = 7) := HNO.out fun j x hx => HN.out j x (by have := (List.getElem?_eq_some_iff.1 hx).1; change j < 7 at this; omega) hx
          go_wp2
          go_ret
          exact ⟨by rw [HR.out]; try rfl, HB.out⟩

end Go.Proofs.YtecffghcpknmjaaDoor

/- Stable sorting of plain lists: there is one answer alone; what a merge by halves needs; no program in sight. -/

namespace Go.Proofs.YtecffghcpknmjaaDoor
open Go Go.RowKit

variable {α : Type} {lt : α → α → Bool}
/-- A strict weak order. -/
structure Weak (lt : α → α → Bool) : Prop where
  irr : ∀ a, lt a a = false
  asym : ∀ a b, lt a b = true → lt b a = false
  neg : ∀ a b c, lt a c = true → lt a b = true ∨ lt b c = true
def eqvB (lt : α → α → Bool) (a b : α) : Bool := !lt a b && !lt b a
def Srt (lt : α → α → Bool) (l : List α) : Prop := l.Pairwise fun a b => lt b a = false
/-- Of each class the same elements, in the same order. -/
def SameE (lt : α → α → Bool) (l m : List α) : Prop := ∀ x, l.filter (eqvB lt x) = m.filter (eqvB lt x)
theorem SameE.refl (l : List α) : SameE lt l l := fun _ => rfl
theorem SameE.symm {l m : List α} (h : SameE lt l m) : SameE lt m l := fun x => (h x).symm
theorem SameE.trans {l m n : List α} (h : SameE lt l m) (g : SameE lt m n) : SameE lt l n := fun x => (h x).trans (g x)
theorem SameE.app {a b c d : List α} (h : SameE lt a b) (g : SameE lt c d) : SameE lt (a ++ c) (b ++ d) := fun x => by rw [List.filter_append, List.filter_append, h x, g x]
theorem eqvB_iff {a b : α} : eqvB lt a b = true ↔ lt a b = false ∧ lt b a = false := by unfold eqvB; simp
theorem Weak.eqv_refl (H : Weak lt) (a : α) : eqvB lt a a = true := eqvB_iff.2 ⟨H.irr a, H.irr a⟩
theorem Weak.leT (H : Weak lt) {a b c : α} (h : lt b a = false) (g : lt c b = false) : lt c a = false := by
  cases e : lt c a with
  | false => rfl
  | true => rcases H.neg c b a e with h' | h' <;> simp_all
theorem Weak.lt_of (H : Weak lt) {a b c : α} (h : lt a b = true) (g : lt c b = false) : lt a c = true := by
  rcases H.neg a c b h with h' | h'
  · exact h'
  · rw [g] at h'; cases h'
theorem Weak.of_lt (H : Weak lt) {a b c : α} (h : lt b a = false) (g : lt b c = true) : lt a c = true := by
  rcases H.neg b a c g with h' | h'
  · rw [h] at h'; cases h'
  · exact h'
theorem SameE.mem (H : Weak lt) {l m : List α} (h : SameE lt l m) {x : α} (hx : x ∈ l) : x ∈ m := by
  have h1 : x ∈ l.filter (eqvB lt x) := List.mem_filter.2 ⟨hx, H.eqv_refl x⟩
  rw [h x] at h1
  exact (List.mem_filter.1 h1).1
theorem SameE.mem_iff (H : Weak lt) {l m : List α} (h : SameE lt l m) (x : α) : x ∈ l ↔ x ∈ m := ⟨h.mem H, h.symm.mem H⟩
theorem SameE.count [DecidableEq α] (H : Weak lt) {l m : List α} (h : SameE lt l m) (x : α) : l.count x = m.count x := by
  have e : ∀ k : List α, (k.filter (eqvB lt x)).count x = k.count x := fun k => List.count_filter (H.eqv_refl x)
  rw [← e l, ← e m, h x]
theorem SameE.perm [DecidableEq α] (H : Weak lt) {l m : List α} (h : SameE lt l m) : l.Perm m := List.perm_iff_count.2 (h.count H)
/-- What stands between may be taken off. -/
theorem SameE.mid {p q a b : List α} (h : SameE lt (p ++ a ++ q) (p ++ b ++ q)) : SameE lt a b := fun x => by
  have := h x
  simp only [List.filter_append, List.append_assoc] at this
  have h2 := List.append_cancel_left this
  exact List.append_cancel_right h2
theorem SameE.turn (H : Weak lt) {u v : List α} (h : ∀ a ∈ u, ∀ b ∈ v, lt b a = true) : SameE lt (u ++ v) (v ++ u) := fun x => by
  rw [List.filter_append, List.filter_append]
  by_cases hu : ∃ a ∈ u, eqvB lt x a = true
  · obtain ⟨a, ha, hxa⟩ := hu
    have : v.filter (eqvB lt x) = [] := by
      rw [List.filter_eq_nil_iff]
      intro b hb hxb
      have h1 := eqvB_iff.1 hxa
      have h2 := eqvB_iff.1 hxb
      have h3 := h a ha b hb
      have h4 : lt b x = true := H.lt_of h3 h1.1
      rw [h2.2] at h4; cases h4
    rw [this, List.append_nil, List.nil_append]
  · have : u.filter (eqvB lt x) = [] := by
      rw [List.filter_eq_nil_iff]
      exact fun a ha hxa => hu ⟨a, ha, hxa⟩
    rw [this, List.append_nil, List.nil_append]
theorem srt_uniq (H : Weak lt) : ∀ {l m : List α}, Srt lt l → Srt lt m → SameE lt l m → l = m
  | [], [], _, _, _ => rfl
  | [], b :: m, _, _, h => by have := h.symm.mem H (List.mem_cons_self (a := b) (l := m)); simp at this
  | a :: l, [], _, _, h => by have := h.mem H (List.mem_cons_self (a := a) (l := l)); simp at this
  | a :: l, b :: m, hl, hm, h => by
    have ha : ∀ x ∈ a :: l, lt x a = false := fun x hx => by
      rcases List.mem_cons.1 hx with rfl | hx
      · exact H.irr _
      · exact (List.pairwise_cons.1 hl).1 x hx
    have hb : ∀ x ∈ b :: m, lt x b = false := fun x hx => by
      rcases List.mem_cons.1 hx with rfl | hx
      · exact H.irr _
      · exact (List.pairwise_cons.1 hm).1 x hx
    have h1 : lt a b = false := hb a (h.mem H List.mem_cons_self)
    have h2 : lt b a = false := ha b (h.symm.mem H List.mem_cons_self)
    have e := h a
    rw [List.filter_cons_of_pos (H.eqv_refl a), List.filter_cons_of_pos (eqvB_iff.2 ⟨h1, h2⟩)] at e
    injection e with e1 e2
    subst e1
    have h3 : SameE lt l m := fun x => by
      have e := h x
      by_cases hx : eqvB lt x a = true
      · rw [List.filter_cons_of_pos hx, List.filter_cons_of_pos hx] at e
        injection e
      · rw [List.filter_cons_of_neg hx, List.filter_cons_of_neg hx] at e
        exact e
    rw [srt_uniq H (List.pairwise_cons.1 hl).2 (List.pairwise_cons.1 hm).2 h3]
theorem Srt.app {a b : List α} (ha : Srt lt a) (hb : Srt lt b) (h : ∀ x ∈ a, ∀ y ∈ b, lt y x = false) : Srt lt (a ++ b) := List.pairwise_append.2 ⟨ha, hb, h⟩
theorem Srt.left {a b : List α} (h : Srt lt (a ++ b)) : Srt lt a := (List.pairwise_append.1 h).1
theorem Srt.right {a b : List α} (h : Srt lt (a ++ b)) : Srt lt b := (List.pairwise_append.1 h).2.1
theorem Srt.across {a b : List α} (h : Srt lt (a ++ b)) : ∀ x ∈ a, ∀ y ∈ b, lt y x = false := (List.pairwise_append.1 h).2.2
theorem srt_nil : Srt lt ([] : List α) := List.Pairwise.nil
theorem srt_one (x : α) : Srt lt [x] := List.pairwise_singleton _ _
/-! Insertion: x behind m1, ahead of m2. -/
theorem ins_srt (H : Weak lt) {m1 m2 : List α} {x : α} (h : Srt lt (m1 ++ m2)) (h1 : ∀ y ∈ m1, lt x y = false) (h2 : ∀ y ∈ m2, lt x y = true) : Srt lt (m1 ++ x :: m2) := by
  refine Srt.app h.left (List.pairwise_cons.2 ⟨fun y hy => H.asym _ _ (h2 y hy), h.right⟩) fun y hy z hz => ?_
  rcases List.mem_cons.1 hz with rfl | hz
  · exact h1 y hy
  · exact h.across y hy z hz
theorem ins_same (H : Weak lt) {m1 m2 : List α} {x : α} (h2 : ∀ y ∈ m2, lt x y = true) : SameE lt ((m1 ++ m2) ++ [x]) (m1 ++ x :: m2) := by
  rw [List.append_assoc]
  refine (SameE.refl m1).app ?_
  have := SameE.turn H (u := m2) (v := [x]) (fun a ha b hb => by rw [List.mem_singleton] at hb; rw [hb]; exact h2 a ha)
  simpa using this
/-- What is not above the last of a sorted row is above none. -/
theorem srt_last (H : Weak lt) {m : List α} {x y : α} (h : Srt lt (m ++ [y])) (hx : lt x y = false) : ∀ z ∈ m ++ [y], lt x z = false := fun z hz => by
  rcases List.mem_append.1 hz with hz | hz
  · exact H.leT (h.across z hz y (List.mem_singleton.2 rfl)) hx
  · rw [List.mem_singleton.1 hz]; exact hx
/-- A row of sorted pieces of s elements each, the last one of as many or fewer. -/
inductive Chunks (lt : α → α → Bool) (s : Nat) : List α → Prop
  | last (l : List α) : l.length ≤ s → Srt lt l → Chunks lt s l
  | cons (a r : List α) : a.length = s → Srt lt a → Chunks lt s r → Chunks lt s (a ++ r)
/-- All pieces of s elements. -/
inductive Full (lt : α → α → Bool) (s : Nat) : List α → Prop
  | nil : Full lt s []
  | snoc (p a : List α) : Full lt s p → a.length = s → Srt lt a → Full lt s (p ++ a)
theorem Chunks.whole {s : Nat} {l : List α} (h : Chunks lt s l) (hl : l.length ≤ s) : Srt lt l := by
  cases h with
  | last _ _ h2 => exact h2
  | cons a r h1 h2 h3 =>
    have : r = [] := List.eq_nil_of_length_eq_zero (by rw [List.length_append] at hl; omega)
    rw [this, List.append_nil]; exact h2
/-- The first piece, where there is more than one of them. -/
theorem Chunks.first {s : Nat} {l : List α} (h : Chunks lt s l) (hl : s ≤ l.length) : ∃ a r, l = a ++ r ∧ a.length = s ∧ Srt lt a ∧ Chunks lt s r := by
  cases h with
  | last _ h1 h2 => exact ⟨l, [], by simp, by omega, h2, .last _ (Nat.zero_le _) srt_nil⟩
  | cons a r h1 h2 h3 => exact ⟨a, r, rfl, h1, h2, h3⟩
theorem Full.chunks {s : Nat} {p : List α} (h : Full lt s p) : ∀ {r : List α}, Chunks lt s r → Chunks lt s (p ++ r) := by
  induction h with
  | nil => exact fun h => by simpa using h
  | snoc p a _ h1 h2 ih => exact fun h => by rw [List.append_assoc]; exact ih (.cons a _ h1 h2 h)
/-! A merge by halves. -/
theorem getElem_mem' {l : List α} {k : Nat} {x : α} (h : l[k]? = some x) : x ∈ l := List.mem_of_getElem? h
theorem srt_at {l : List α} (h : Srt lt l) {i j : Nat} {x y : α} (hx : l[i]? = some x) (hy : l[j]? = some y) (hij : i < j) : lt y x = false := by
  obtain ⟨h1, rfl⟩ := List.getElem?_eq_some_iff.1 hx
  obtain ⟨h2, rfl⟩ := List.getElem?_eq_some_iff.1 hy
  exact List.pairwise_iff_getElem.1 h i j h1 h2 hij
theorem srt_at' (H : Weak lt) {l : List α} (h : Srt lt l) {i j : Nat} {x y : α} (hx : l[i]? = some x) (hy : l[j]? = some y) (hij : i ≤ j) : lt y x = false := by
  rcases Nat.lt_or_ge i j with h' | h'
  · exact srt_at h hx hy h'
  · obtain rfl : i = j := by omega
    rw [hx] at hy; cases hy; exact H.irr _
/-- Where two sorted rows are cut: what goes over lies below all that it goes over, and what stays is in order. -/
theorem halves (H : Weak lt) {U V : List α} (hU : Srt lt U) (hV : Srt lt V) {i j : Nat} (_hi : i ≤ U.length) (_hj : j ≤ V.length)
    (h1 : ∀ x y, U[i]? = some x → 0 < j → V[j - 1]? = some y → lt y x = true) (h2 : ∀ x y, 0 < i → U[i - 1]? = some x → V[j]? = some y → lt y x = false) :
    (∀ x ∈ U.drop i, ∀ y ∈ V.take j, lt y x = true) ∧ (∀ x ∈ U.take i, ∀ y ∈ V.drop j, lt y x = false) := by
  constructor
  · intro x hx y hy
    obtain ⟨k, hk⟩ := List.getElem?_of_mem hx
    obtain ⟨m, hm⟩ := List.getElem?_of_mem hy
    rw [List.getElem?_drop] at hk
    rw [List.getElem?_take] at hm
    split at hm
    · rename_i hmj
      have hj0 : 0 < j := by omega
      have hil : i < U.length := by have := (List.getElem?_eq_some_iff.1 hk).1; omega
      have a := h1 U[i] V[j - 1] (List.getElem?_eq_getElem hil) hj0 (List.getElem?_eq_getElem (by omega))
      have b : lt x U[i] = false := srt_at' H hU (List.getElem?_eq_getElem hil) hk (by omega)
      have c : lt V[j - 1] y = false := srt_at' H hV hm (List.getElem?_eq_getElem (by omega)) (by omega)
      exact H.lt_of (H.of_lt c a) b
    · cases hm
  · intro x hx y hy
    obtain ⟨k, hk⟩ := List.getElem?_of_mem hx
    obtain ⟨m, hm⟩ := List.getElem?_of_mem hy
    rw [List.getElem?_drop] at hm
    rw [List.getElem?_take] at hk
    split at hk
    · rename_i hki
      have hi0 : 0 < i := by omega
      have hjl : j < V.length := by have := (List.getElem?_eq_some_iff.1 hm).1; omega
      have a := h2 U[i - 1] V[j] hi0 (List.getElem?_eq_getElem (by omega)) (List.getElem?_eq_getElem hjl)
      have b : lt U[i - 1] x = false := srt_at' H hU hk (List.getElem?_eq_getElem (by omega)) (by omega)
      have c : lt y V[j] = false := srt_at' H hV (List.getElem?_eq_getElem hjl) hm (by omega)
      exact H.leT (H.leT b a) c
    · cases hk
/-- The two halves, each merged, are the whole, merged. -/
theorem halves_join (H : Weak lt) {U1 U2 V1 V2 M1 M2 : List α} (hU : Srt lt (U1 ++ U2)) (hV : Srt lt (V1 ++ V2)) (h1 : ∀ x ∈ U2, ∀ y ∈ V1, lt y x = true) (h2 : ∀ x ∈ U1, ∀ y ∈ V2, lt y x = false)
    (s1 : Srt lt M1) (s2 : Srt lt M2) (e1 : SameE lt (U1 ++ V1) M1) (e2 : SameE lt (U2 ++ V2) M2) : Srt lt (M1 ++ M2) ∧ SameE lt ((U1 ++ U2) ++ (V1 ++ V2)) (M1 ++ M2) := by
  constructor
  · refine s1.app s2 fun x hx y hy => ?_
    rcases List.mem_append.1 (e1.symm.mem H hx) with hx | hx
    · rcases List.mem_append.1 (e2.symm.mem H hy) with hy | hy
      · exact hU.across x hx y hy
      · exact h2 x hx y hy
    · rcases List.mem_append.1 (e2.symm.mem H hy) with hy | hy
      · exact H.asym _ _ (h1 y hy x hx)
      · exact hV.across x hx y hy
  · refine SameE.trans ?_ (e1.app e2)
    have := SameE.turn H h1
    have h3 := ((SameE.refl U1).app (this.app (SameE.refl V2)))
    simpa [List.append_assoc] using h3

end Go.Proofs.YtecffghcpknmjaaDoor

/- The order of versions is a weak order; plain laws, no program in sight. -/

namespace Go.Proofs.YtecffghcpknmjaaDoor
open Go Go.RowKit

/-- A comparison: turned about it answers the other way; what is not above goes on. -/
structure Cmpr {α : Type} (c : α → α → Int) : Prop where
  flip : ∀ a b, c b a = - c a b
  le : ∀ a b d, c a b ≤ 0 → c b d ≤ 0 → c a d ≤ 0
def lexC {α : Type} (c d : α → α → Int) (a b : α) : Int := if c a b ≠ 0 then c a b else d a b
theorem Cmpr.ltle {α : Type} {c : α → α → Int} (h : Cmpr c) {a b d : α} (h1 : c a b < 0) (h2 : c b d ≤ 0) : c a d < 0 := by
  have h3 := h.le a b d (by omega) h2
  by_cases h4 : c a d = 0
  · have h5 : c d a ≤ 0 := by rw [h.flip]; omega
    have h6 := h.le b d a h2 h5
    rw [h.flip] at h6; omega
  · omega
theorem Cmpr.lelt {α : Type} {c : α → α → Int} (h : Cmpr c) {a b d : α} (h1 : c a b ≤ 0) (h2 : c b d < 0) : c a d < 0 := by
  have h3 := h.le a b d h1 (by omega)
  by_cases h4 : c a d = 0
  · have h5 : c d a ≤ 0 := by rw [h.flip]; omega
    have h6 := h.le d a b h5 h1
    rw [h.flip] at h6; omega
  · omega
theorem Cmpr.lex {α : Type} {c d : α → α → Int} (h : Cmpr c) (g : Cmpr d) : Cmpr (lexC c d) := by
  constructor
  · intro a b
    unfold lexC
    rw [h.flip a b]
    by_cases e : c a b = 0
    · rw [e]; simp [g.flip a b]
    · rw [if_pos (by omega), if_pos e]
  · intro a b e h1 h2
    unfold lexC at h1 h2 ⊢
    by_cases e1 : c a b = 0
    · rw [if_neg (by simpa using e1)] at h1
      by_cases e2 : c b e = 0
      · rw [if_neg (by simpa using e2)] at h2
        have h3 := h.le a b e (by omega) (by omega)
        have h4 : c a e = 0 := by
          have h5 := h.le e b a (by rw [h.flip]; omega) (by rw [h.flip]; omega)
          rw [h.flip] at h5; omega
        rw [if_neg (by simpa using h4)]
        exact g.le a b e h1 h2
      · rw [if_pos e2] at h2
        have h3 := h.lelt (a := a) (b := b) (d := e) (by omega) (by omega)
        rw [if_pos (by omega)]; omega
    · rw [if_pos e1] at h1
      have h2' : c b e ≤ 0 := by
        by_cases e2 : c b e = 0
        · omega
        · rw [if_pos e2] at h2; exact h2
      have h3 := h.ltle (a := a) (b := b) (d := e) (by omega) h2'
      rw [if_pos (by omega)]; omega
theorem Cmpr.via {α β : Type} {c : β → β → Int} (h : Cmpr c) (f : α → β) : Cmpr (fun a b => c (f a) (f b)) := ⟨fun _ _ => h.flip _ _, fun _ _ _ => h.le _ _ _⟩
theorem Cmpr.none {α : Type} : Cmpr (fun _ _ : α => (0 : Int)) := ⟨fun _ _ => rfl, fun _ _ _ _ _ => Int.le_refl _⟩
theorem Cmpr.eq {α : Type} {c d : α → α → Int} (h : Cmpr c) (e : ∀ a b, d a b = c a b) : Cmpr d := by
  have : d = c := funext fun a => funext fun b => e a b
  rw [this]; exact h
theorem sgn_cmpr : Cmpr sgnV := by
  constructor
  · intro a b
    unfold sgnV
    by_cases h1 : a < b <;> by_cases h2 : b < a <;> simp [h1, h2] <;> omega
  · intro a b d h1 h2
    unfold sgnV at *
    split at h1 <;> split at h2 <;> split <;> (try split at h1) <;> (try split at h2) <;> (try split) <;> omega
theorem bytes_cmpr : Cmpr Lib.compareBytes := by
  refine ⟨fun a b => cmpB_anti a b, fun a b d h1 h2 => ?_⟩
  rcases cmpB_range a b with e1 | e1 | e1
  · rcases cmpB_range b d with e2 | e2 | e2
    · rw [cmpB_trans e1 e2]; omega
    · rw [← cmpB_eq e2]; omega
    · omega
  · rw [cmpB_eq e1]; exact h2
  · omega
def lenK (p : PartV) : Int := if 7 < rankV p then p.text.length else 0
def txtK (p : PartV) : Bs := if 7 ≤ rankV p then p.text else []
theorem cmpV_lex (p q : PartV) : cmpV p q = lexC (fun a b => sgnV (rankV a) (rankV b)) (lexC (fun a b => sgnV (lenK a) (lenK b)) (fun a b => Lib.compareBytes (txtK a) (txtK b))) p q := by
  unfold cmpV lexC
  by_cases h : sgnV (rankV p) (rankV q) ≠ 0
  · rw [if_pos h, if_pos h]
  · rw [if_neg h, if_neg h]
    have he : rankV p = rankV q := by
      have h' : sgnV (rankV p) (rankV q) = 0 := by simpa using h
      unfold sgnV at h'
      split at h'
      · omega
      · split at h' <;> omega
    simp only []
    unfold lenK txtK
    rw [← he]
    by_cases h7 : rankV p = 7
    · rw [if_pos h7, h7]; simp [sgnV]
    · rw [if_neg h7]
      by_cases h8 : 7 < rankV p
      · have h9 : 7 ≤ rankV p := by omega
        simp only [if_pos h8, if_pos h9]
      · have h9 : ¬ 7 ≤ rankV p := by omega
        simp only [if_neg h8, if_neg h9]
        simp [sgnV, cmpB_refl]
theorem cmpV_cmpr : Cmpr cmpV := Cmpr.eq ((sgn_cmpr.via fun a : PartV => (rankV a : Int)).lex ((sgn_cmpr.via lenK).lex (bytes_cmpr.via txtK))) cmpV_lex
theorem cmpV_self (p : PartV) : cmpV p p = 0 := by have := cmpV_cmpr.flip p p; omega
theorem cmpFrom_cmpr : ∀ n i, Cmpr (fun l m => cmpFrom l m n i)
  | 0, _ => Cmpr.none
  | n + 1, i => Cmpr.eq ((cmpV_cmpr.via fun l : List PartV => atV l i).lex (cmpFrom_cmpr n (i + 1))) fun _ _ => rfl
theorem atV_out {l : List PartV} {i : Nat} (h : l.length ≤ i) : atV l i = nullV := by unfold atV; rw [List.getElem?_eq_none h]; rfl
theorem cmpFrom_out {l m : List PartV} : ∀ n i, l.length ≤ i → m.length ≤ i → cmpFrom l m n i = 0
  | 0, _, _, _ => rfl
  | n + 1, i, h1, h2 => by
    unfold cmpFrom
    rw [atV_out h1, atV_out h2, cmpV_self]
    simp
    exact cmpFrom_out n (i + 1) (by omega) (by omega)
theorem cmpFrom_more {l m : List PartV} : ∀ n k i, l.length ≤ i + n → m.length ≤ i + n → cmpFrom l m (n + k) i = cmpFrom l m n i
  | 0, k, i, h1, h2 => by rw [cmpFrom_out _ i (by omega) (by omega)]; rfl
  | n + 1, k, i, h1, h2 => by
    rw [show n + 1 + k = (n + k) + 1 by omega]
    unfold cmpFrom
    rw [cmpFrom_more n k (i + 1) (by omega) (by omega)]
theorem compareV_at {a b : Bs} {N : Nat} (h1 : (partsV a).length ≤ N) (h2 : (partsV b).length ≤ N) : compareV a b = cmpFrom (partsV a) (partsV b) N 0 := by
  unfold compareV
  obtain ⟨k, rfl⟩ : ∃ k, N = max (partsV a).length (partsV b).length + k := ⟨N - max (partsV a).length (partsV b).length, by omega⟩
  rw [cmpFrom_more _ k 0 (by omega) (by omega)]
theorem compareV_cmpr : Cmpr compareV := by
  constructor
  · intro a b
    rw [compareV_at (N := max (partsV a).length (partsV b).length) (by omega) (by omega), compareV_at (N := max (partsV a).length (partsV b).length) (by omega) (by omega)]
    exact (cmpFrom_cmpr _ _).flip _ _
  · intro a b d
    have e : ∀ x y, (x = a ∨ x = b ∨ x = d) → (y = a ∨ y = b ∨ y = d) → compareV x y = cmpFrom (partsV x) (partsV y) ((partsV a).length + (partsV b).length + (partsV d).length) 0 := fun x y hx hy => compareV_at (by rcases hx with rfl | rfl | rfl <;> omega) (by rcases hy with rfl | rfl | rfl <;> omega)
    rw [e a b (by simp) (by simp), e b d (by simp) (by simp), e a d (by simp) (by simp)]
    exact (cmpFrom_cmpr _ _).le _ _ _
/-- The order of versions as texts. -/
def cmpSV (a b : S) : Int := compareV a.data.toList b.data.toList
def ltSV (a b : S) : Bool := decide (cmpSV a b < 0)
theorem Cmpr.weak {α : Type} {c : α → α → Int} (h : Cmpr c) : Weak (fun a b => decide (c a b < 0)) := by
  constructor
  · intro a
    have := h.flip a a
    simp; omega
  · intro a b h1
    have := h.flip a b
    simp at h1 ⊢; omega
  · intro a b d h1
    simp at h1 ⊢
    by_cases h2 : c a b < 0
    · exact .inl h2
    · right
      have h3 : c b a ≤ 0 := by rw [h.flip]; omega
      exact h.lelt h3 h1
theorem cmpSV_cmpr : Cmpr cmpSV := compareV_cmpr.via _
theorem ltSV_weak : Weak ltSV := cmpSV_cmpr.weak

end Go.Proofs.YtecffghcpknmjaaDoor

/- The walk of the document's Compare; the conditions stand in the theorem. -/
namespace Go.Proofs.YtecffghcpknmjaaDoor
open Go Go.RowKit

theorem bytesLessV : ∀ l m : Bs, Op.bytesLess l m = decide (Lib.compareBytes l m = -1)
  | [], [] => rfl
  | [], _ :: _ => rfl
  | _ :: _, [] => rfl
  | x :: l, y :: m => by
    simp only [Op.bytesLess, Lib.compareBytes]
    by_cases h1 : x < y
    · simp [h1]
    · by_cases h2 : y < x
      · have h3 : ¬ x = y := by intro e; subst e; exact h1 h2
        simp [h1, h2, h3]
      · have : x = y := by rw [UInt8.lt_iff_toNat_lt] at h1 h2; exact UInt8.toNat_inj.1 (by omega)
        subst this
        simp [bytesLessV l m]
theorem cmpV_ne (p q : PartV) (h : rankV p ≠ rankV q) : cmpV p q = if rankV p < rankV q then -1 else 1 := by
  unfold cmpV sgnV
  by_cases h1 : rankV p < rankV q
  · simp [h1]
  · have h2 : rankV q < rankV p := by omega
    simp [h1, h2]
theorem sgnV_self (a : Int) : sgnV a a = 0 := by unfold sgnV; simp
theorem cmpV_lo (p q : PartV) (h : rankV p = rankV q) (h7 : rankV p < 7) : cmpV p q = 0 := by
  unfold cmpV
  rw [h, sgnV_self, if_neg (by simp), if_neg (by omega), if_neg (by omega)]
theorem cmpV_eq (p q : PartV) (h : rankV p = rankV q) (ht : p.text = q.text) : cmpV p q = 0 := by
  unfold cmpV
  rw [h, sgnV_self, if_neg (by simp), ht, sgnV_self, cmpB_refl]
  simp
theorem cmpV_len (p q : PartV) (h : rankV p = rankV q) (h7 : 7 < rankV p) (hl : p.text.length ≠ q.text.length) : cmpV p q = if p.text.length < q.text.length then -1 else 1 := by
  unfold cmpV
  rw [h] at h7
  rw [h, sgnV_self, if_neg (by simp), if_neg (by omega), if_pos h7]
  unfold sgnV
  by_cases h1 : p.text.length < q.text.length
  · simp [h1]
  · have h2 : q.text.length < p.text.length := by omega
    simp [h1, h2]
theorem cmpV_txt (p q : PartV) (h : rankV p = rankV q) (h7 : 7 ≤ rankV p) (hl : 7 < rankV p → p.text.length = q.text.length) (ht : p.text ≠ q.text) : cmpV p q = if Op.bytesLess p.text q.text = true then -1 else 1 := by
  have hc : cmpV p q = Lib.compareBytes p.text q.text := by
    unfold cmpV
    by_cases h8 : 7 < rankV p
    · rw [hl h8, sgnV_self]; rw [h] at h8; rw [h, sgnV_self, if_neg (by simp), if_neg (by omega), if_pos h8, if_neg (by simp)]
    · have : rankV q = 7 := by omega
      rw [h, sgnV_self, if_neg (by simp), if_pos this]
  rw [hc, bytesLessV]
  rcases cmpB_range p.text q.text with e | e | e
  · rw [e]; rfl
  · exact absurd (cmpB_eq e) ht
  · rw [e]; rfl
theorem atV_ga {T : Bs} {k : Nat} : (atV (partsV T) k).number = false → (atV (partsV T) k).text ≠ wGa := by
  unfold atV
  cases h : (partsV T)[k]? with
  | none => intro h2; cases h2
  | some p => exact partsV_ga (List.mem_of_getElem? h)
theorem rankV_le (p : PartV) : rankV p ≤ 9 := by
  unfold rankV
  split
  · split
    · omega
    · split <;> omega
  · cases h : wordsV.findIdx? (fun w => decide (p.text = w)) with
    | none => simp
    | some i => have := (List.findIdx?_eq_some_iff_findIdx_eq.1 h).1; change i < 7 at this; simp; omega
/-- The document's Parts answers the parts (V10). -/
def RefPartsOk : Prop := ∀ (s : S) (w : World), s.size ≤ 900000 → Calls Tryd.prog 40 #[.string s] w fun e w' => ∃ v, e = .returned v ∧ Owns w.heap.size 70 3 docC w' v (partsV s.data.toList) ∧ Below w.heap.size w w'
set_option maxRecDepth 100000 in
set_option maxHeartbeats 16000000 in
theorem refCompareV_of (HPT : RefPartsOk) (a b : S) (w : World) (ha : a.size ≤ 900000) (hb : b.size ≤ 900000) : Calls Tryd.prog 18 #[.string a, .string b] w fun e w' => e = .returned (.int .i64 (compareV a.data.toList b.data.toList)) ∧ Below w.heap.size w w' := by
  have HPA := Lib.hid (HPT a w ha)
  have HPB : Hid (∀ W, Calls Tryd.prog 40 #[.string b] W fun e w' => ∃ v, e = .returned v ∧ Owns W.heap.size 70 3 docC w' v (partsV b.data.toList) ∧ Below W.heap.size W w') := fun W => HPT b W hb
  have HLA : Hid ((partsV a.data.toList).length ≤ 1000000) := partsV_len a ha
  have HLB : Hid ((partsV b.data.toList).length ≤ 1000000) := partsV_len b hb
  have HCV : Hid (compareV a.data.toList b.data.toList = cmpFrom (partsV a.data.toList) (partsV b.data.toList) (max (partsV a.data.toList).length (partsV b.data.toList).length) 0) := rfl
  have HGA : Hid (∀ k, (atV (partsV a.data.toList) k).number = false → (atV (partsV a.data.toList) k).text ≠ wGa) := fun _ => atV_ga
  have HGB : Hid (∀ k, (atV (partsV b.data.toList) k).number = false → (atV (partsV b.data.toList) k).text ≠ wGa) := fun _ => atV_ga
  clear ha hb HPT
  go_enter Tryd.func18, Tryd.ntmps18
  go_wp2_with fail
  refine HPA.out.mono ?_
  rintro e w1 ⟨v1, rfl, hp1, hb1⟩
  obtain ⟨ao, ac, rfl⟩ := hp1.shape
  have HS1 := Lib.hid (hp1.slice docC_len)
  have HB1 := Lib.hid hb1
  clear hp1 hb1 HPA
  go_wp2_with fail
  refine (HPB.out w1).mono ?_
  rintro e w2 ⟨v2, rfl, hp2, hb2⟩
  obtain ⟨bo, bc, rfl⟩ := hp2.shape
  have HS2 := Lib.hid (hp2.slice docC_len)
  have HS3 := Lib.hid (HS1.out.below hb2)
  have HB2 := Lib.hid (HB1.out.trans (hb2.mono HB1.out.size))
  clear hp2 hb2 HPB HS1 HB1
  generalize partsV a.data.toList = l at *
  generalize partsV b.data.toList = m at *
  obtain ⟨N, hN⟩ : ∃ N : Nat, N = max l.length m.length := ⟨_, rfl⟩
  have HNM := Lib.hid hN
  have HNB : Hid (N ≤ 1000000) := by have := HLA.out; have := HLB.out; show _ ≤ _; omega
  rw [← hN] at HCV
  clear hN
  go_wp2
  go_loopw [7] (fun i wr => ∃ k : Nat, i = .int .i64 k ∧ k ≤ N ∧ Hid (Below w2.heap.size w2 wr) ∧ Hid (compareV a.data.toList b.data.toList = cmpFrom l m (N - k) k)) (fun i _ => N - (intOf i).toNat)
  case atStart => exact ⟨0, rfl, Nat.zero_le _, Below.refl _ _, HCV⟩
  case round =>
    clear HCV
    obtain ⟨k, rfl, hk, HB, HC⟩ := hrel
    obtain ⟨qa, hqa⟩ : ∃ q : Bool, decide (k < l.length) = q := ⟨_, rfl⟩
    obtain ⟨qb, hqb⟩ : ∃ q : Bool, decide (k < m.length) = q := ⟨_, rfl⟩
    have hqaz : decide ((k : Int) < (l.length : Int)) = qa := by rw [← hqa]; congr 1; rw [eq_iff_iff]; omega
    have hqbz : decide ((k : Int) < (m.length : Int)) = qb := by rw [← hqb]; congr 1; rw [eq_iff_iff]; omega
    have HQA := Lib.hid hqa
    have HQB := Lib.hid hqb
    go_upto_region 3 with fail
    go_cut [23] from 14 to 22 (fun x wx => x = .bool (qa || qb) ∧ wr = wx)
    case first =>
      cases qa
      · cases qb
        · go_wp2
          go_meet
          case rel => exact ⟨rfl, rfl⟩
        · go_wp2
          go_meet
          case rel => exact ⟨rfl, rfl⟩
      · go_wp2
        go_meet
        case rel => exact ⟨rfl, rfl⟩
    case rest =>
    obtain ⟨rfl, rfl⟩ := hcut
    by_cases hlt : k < N
    · have hor : (qa || qb) = true := by
        have h1 := HQA.out; have h2 := HQB.out; have h3 := HNM.out
        change _ = _ at h1; change _ = _ at h2; change _ = _ at h3
        rw [← h1, ← h2, Bool.or_eq_true, decide_eq_true_iff, decide_eq_true_iff]; omega
      have wk : IntKind.i64.wrap ((k : Int) + 1) = (k : Int) + 1 := IntWalk.i64_in _ (by have := HNB.out; omega)
      have HC2 : Hid (compareV a.data.toList b.data.toList = if cmpV (atV l k) (atV m k) ≠ 0 then cmpV (atV l k) (atV m k) else cmpFrom l m (N - (k + 1)) (k + 1)) := by
        show _ = _
        rw [HC.out, show N - k = (N - (k + 1)) + 1 by omega]; rfl
      have HAa : Hid (∀ (h : k < l.length), atV l k = l[k]) := fun h => by unfold atV; rw [List.getElem?_eq_getElem h]; rfl
      have HAb : Hid (∀ (h : k < m.length), atV m k = m[k]) := fun h => by unfold atV; rw [List.getElem?_eq_getElem h]; rfl
      have HNa : Hid (¬ k < l.length → atV l k = nullV) := fun h => atV_out (by omega)
      have HNb : Hid (¬ k < m.length → atV m k = nullV) := fun h => atV_out (by omega)
      clear HC
      have HRX : Hid (∀ W, Calls Tryd.prog 41 #[.agg (docC (atV l k)).toArray] W fun e w' => e = .returned (.int .i64 (rankV (atV l k))) ∧ Below W.heap.size W w') := fun W => refRank_any _ (HGA.out k) W
      have HRY : Hid (∀ W, Calls Tryd.prog 41 #[.agg (docC (atV m k)).toArray] W fun e w' => e = .returned (.int .i64 (rankV (atV m k))) ∧ Below W.heap.size W w') := fun W => refRank_any _ (HGB.out k) W
      have HSa := Lib.hid (HS3.out.below HB.out)
      have HSb := Lib.hid (HS2.out.below HB.out)
      generalize hax : atV l k = x at *
      generalize hay : atV m k = y at *
      have HK1 := cmpV_ne x y
      have HK2 := cmpV_lo x y
      have HK3 := cmpV_eq x y
      have HK4 := cmpV_len x y
      have HK5 := cmpV_txt x y
      have hrx := rankV_le x
      have hry := rankV_le y
      generalize hcv : cmpV x y = cv at *
      generalize rankV x = rx at *
      generalize rankV y = ry at *
      replace HK1 := Lib.hid HK1
      replace HK2 := Lib.hid HK2
      replace HK3 := Lib.hid HK3
      replace HK4 := Lib.hid HK4
      replace HK5 := Lib.hid HK5
      clear hax hay hcv
      rw [hor]
      go_upto_region 6 with fail
      refine wp_world ?_
      intro W hW
      obtain ⟨B, hB⟩ : ∃ B, wr.heap.size = B := ⟨_, rfl⟩
      have BX : Hid (Box W B [.bool false, .bool false, .string ⟨#[]⟩]) := by show Box _ _ _; rw [hW]; exact (Box.new wr [.bool false, .bool false, .string ⟨#[]⟩] _ _ hB).alloc _
      have BY : Hid (Box W (B + 1) [.bool false, .bool false, .string ⟨#[]⟩]) := by show Box _ _ _; rw [hW]; exact Box.new _ [.bool false, .bool false, .string ⟨#[]⟩] _ _ (by simp [hB])
      have hbw : Below wr.heap.size wr W := by rw [hW]; exact ((Below.refl _ wr).alloc (Nat.le_refl _) _).alloc (by simp) _
      have BB : Hid (Below w2.heap.size w2 W) := HB.out.trans (hbw.mono HB.out.size)
      have HBl : Hid (w2.heap.size ≤ B) := by show _ ≤ _; rw [← hB]; exact HB.out.size
      replace HSa := Lib.hid (HSa.out.below hbw)
      replace HSb := Lib.hid (HSb.out.below hbw)
      rw [hB]
      clear hW hbw hB HB
      go_upto_if 31 with fail
      go_cut [] from 32 to 35 (fun wx => Hid (Box wx B (docC x) ∧ Box wx (B + 1) [.bool false, .bool false, .string ⟨#[]⟩] ∧ Below w2.heap.size w2 wx))
      case first =>
        cases qa with
        | true =>
          obtain ⟨b', o, hao, hbl, hc⟩ := HSa.out.at (show k < l.length from of_decide_eq_true HQA.out)
          cases hao
          rw [← HAa.out (of_decide_eq_true HQA.out)] at hc
          have c0 := hc 0 _ rfl
          have c1 := hc 1 _ rfl
          have c2 := hc 2 _ rfl
          rw [Nat.add_zero] at c0
          have hkl : (k : Int) < (l.length : Int) := by have := of_decide_eq_true HQA.out; omega
          clear hc
          go_wp2_with ((with_reducible show wpList _ _ _ (Oper.mk none (Op.store 70 (.tmp 8) (.tmp 35)) _ _ _ _ :: _) _ _); refine wpList_store_box rfl 70 (.tmp 8) (.tmp 35) rfl B _ (docC x) rfl rfl BX.out rfl (by kernel_rfl) (docC_one x) ?_; intro W7 v7 hg7; have HZ7 : Hid (Box W7 B (docC x) ∧ Box W7 (B + 1) [.bool false, .bool false, .string ⟨#[]⟩] ∧ Below w2.heap.size w2 W7) := ⟨v7, BY.out.grown hg7 (by simp), BB.out.grown hg7 BB.out.size (fun j hj => by cases hj; exact HBl.out)⟩)
          go_meet
          case rel => exact HZ7
        | false =>
          have hx : x = nullV := HNa.out (of_decide_eq_false HQA.out)
          have HZ7 : Hid (Box W B (docC x) ∧ Box W (B + 1) [.bool false, .bool false, .string ⟨#[]⟩] ∧ Below w2.heap.size w2 W) := by
            refine ⟨?_, BY.out, BB.out⟩
            rw [hx]; exact BX.out
          clear hx
          go_wp2
          go_meet
          case rel => exact HZ7
      case rest =>
      have BX := Lib.hid hcut.out.1
      have BY := Lib.hid hcut.out.2.1
      have BB := Lib.hid hcut.out.2.2
      clear hcut
      replace HSb : Hid (SliceOf 3 docC wc (.slice bo m.length bc) m) := HS2.out.below BB.out
      clear HSa
      generalize wc = W4 at *
      go_upto_if 39 with fail
      go_cut [] from 40 to 43 (fun wx => Hid (Box wx B (docC x) ∧ Box wx (B + 1) (docC y) ∧ Below w2.heap.size w2 wx))
      case first =>
        cases qb with
        | true =>
          obtain ⟨b', o, hao, hbl, hc⟩ := HSb.out.at (show k < m.length from of_decide_eq_true HQB.out)
          cases hao
          rw [← HAb.out (of_decide_eq_true HQB.out)] at hc
          have c0 := hc 0 _ rfl
          have c1 := hc 1 _ rfl
          have c2 := hc 2 _ rfl
          rw [Nat.add_zero] at c0
          have hkl : (k : Int) < (m.length : Int) := by have := of_decide_eq_true HQB.out; omega
          clear hc
          go_wp2_with ((with_reducible show wpList _ _ _ (Oper.mk none (Op.store 70 (.tmp 9) (.tmp 43)) _ _ _ _ :: _) _ _); refine wpList_store_box rfl 70 (.tmp 9) (.tmp 43) rfl (B + 1) _ (docC y) rfl rfl BY.out rfl (by kernel_rfl) (docC_one y) ?_; intro W7 v7 hg7; have HZ7 : Hid (Box W7 B (docC x) ∧ Box W7 (B + 1) (docC y) ∧ Below w2.heap.size w2 W7) := ⟨BX.out.grown hg7 (by simp), v7, BB.out.grown hg7 BB.out.size (fun j hj => by cases hj; exact Nat.le_succ_of_le HBl.out)⟩)
          go_meet
          case rel => exact HZ7
        | false =>
          have hx : y = nullV := HNb.out (of_decide_eq_false HQB.out)
          have HZ7 : Hid (Box W4 B (docC x) ∧ Box W4 (B + 1) (docC y) ∧ Below w2.heap.size w2 W4) := by
            refine ⟨BX.out, ?_, BB.out⟩
            rw [hx]; exact BY.out
          clear hx
          go_wp2
          go_meet
          case rel => exact HZ7
      case rest =>
      have BX := Lib.hid hcut.out.1
      have BY := Lib.hid hcut.out.2.1
      have BB := Lib.hid hcut.out.2.2
      clear hcut
      clear HSb HAa HAb HNa HNb hqaz hqbz hqa hqb
      generalize wc = W5 at *
      have x0 := BX.out.cell 0 _ rfl
      have x1 := BX.out.cell 1 _ rfl
      have x2 := BX.out.cell 2 _ rfl
      have xl := BX.out.lt
      have y0 := BY.out.cell 0 _ rfl
      have y1 := BY.out.cell 1 _ rfl
      have y2 := BY.out.cell 2 _ rfl
      have yl := BY.out.lt
      have hLL := @Later.cells W5
      have HPX : Hid (∀ z : Later W5, Calls Tryd.prog 41 #[.agg #[.bool (!x.number), .bool x.hyphen, .string (bs x.text)]] z.at_ fun e w'' => e = .returned (.int .i64 rx) ∧ ∃ u : Later W5, w'' = u.at_) := fun z => Later.call (HRX.out _)
      have HPY : Hid (∀ z : Later W5, Calls Tryd.prog 41 #[.agg #[.bool (!y.number), .bool y.hyphen, .string (bs y.text)]] z.at_ fun e w'' => e = .returned (.int .i64 ry) ∧ ∃ u : Later W5, w'' = u.at_) := fun z => Later.call (HRY.out _)
      go_upto_region 10 with fail
      refine region_later (by kernel_rfl) (by kernel_rfl) ?_
      repeat (go_big_quiet_step ((go_at_call 41; first | (with_reducible exact HPX.out _) | (with_reducible exact HPY.out _))))
      refine wpQuiet_nil ?_
      rintro _ ⟨nx, rfl⟩
      have H2X := Lib.hid (BX.out.below nx.below BX.out.lt)
      have H2Y := Lib.hid (BY.out.below nx.below BY.out.lt)
      have H2B := Lib.hid (BB.out.trans (nx.below.mono BB.out.size))
      clear hLL HPX HPY x0 x1 x2 xl y0 y1 y2 yl BX BY BB
      have BX := H2X
      have BY := H2Y
      have BB := H2B
      clear H2X H2Y H2B
      generalize nx.at_ = W6 at *
      by_cases hrr : rx = ry
      · have e1 : ((rx : Int) == (ry : Int)) = true := by rw [beq_iff_eq]; omega
        have e1n : (rx == ry) = true := by rw [beq_iff_eq]; exact hrr
        have HRR := Lib.hid hrr
        clear hrr
        have x0 := BX.out.cell 0 _ rfl
        have x1 := BX.out.cell 1 _ rfl
        have x2 := BX.out.cell 2 _ rfl
        have xl := BX.out.lt
        have y0 := BY.out.cell 0 _ rfl
        have y1 := BY.out.cell 1 _ rfl
        have y2 := BY.out.cell 2 _ rfl
        have yl := BY.out.lt
        have HP1 : Hid (Calls Tryd.prog 41 #[.agg #[.bool (!x.number), .bool x.hyphen, .string (bs x.text)]] W6 fun e w' => e = .returned (.int .i64 rx) ∧ Below W6.heap.size W6 w') := HRX.out W6
        go_wp2_with fail
        refine HP1.out.mono ?_
        rintro e wq ⟨rfl, hbq⟩
        have H2X := Lib.hid (BX.out.below hbq BX.out.lt)
        have H2Y := Lib.hid (BY.out.below hbq BY.out.lt)
        have H2B := Lib.hid (BB.out.trans (hbq.mono BB.out.size))
        clear HP1 x0 x1 x2 xl y0 y1 y2 yl BX BY BB
        have BX := H2X
        have BY := H2Y
        have BB := H2B
        clear H2X H2Y H2B
        generalize wq = W7 at *
        by_cases h7 : rx < 7
        · have d1 : decide ((rx : Int) < 7) = true := decide_eq_true (by omega)
          have d1n : decide (rx < 7) = true := decide_eq_true h7
          have d1p : (rx : Int) < 7 := by omega
          have HC3 : Hid (compareV a.data.toList b.data.toList = cmpFrom l m (N - (k + 1)) (k + 1)) := by show _ = _; rw [HC2.out, if_neg (by rw [HK2.out HRR.out h7]; simp)]
          clear HC2
          go_wp2
          go_roundw
          case rel => exact ⟨k + 1, by first | rfl | go_num, hlt, BB, HC3⟩
          case measure => simp [intOf]; omega
        · have d1 : decide ((rx : Int) < 7) = false := decide_eq_false (by omega)
          have d1n : decide (rx < 7) = false := decide_eq_false h7
          have d1p : ¬ (rx : Int) < 7 := by omega
          have x0 := BX.out.cell 0 _ rfl
          have x1 := BX.out.cell 1 _ rfl
          have x2 := BX.out.cell 2 _ rfl
          have xl := BX.out.lt
          have y0 := BY.out.cell 0 _ rfl
          have y1 := BY.out.cell 1 _ rfl
          have y2 := BY.out.cell 2 _ rfl
          have yl := BY.out.lt
          by_cases ht : x.text = y.text
          · have q1 : ((bs x.text).toList == (bs y.text).toList) = true := by rw [ht, beq_iff_eq]
            have HC3 : Hid (compareV a.data.toList b.data.toList = cmpFrom l m (N - (k + 1)) (k + 1)) := by show _ = _; rw [HC2.out, if_neg (by rw [HK3.out HRR.out ht]; simp)]
            clear HC2 ht
            go_wp2
            go_roundw
            case rel => exact ⟨k + 1, by first | rfl | go_num, hlt, BB, HC3⟩
            case measure => simp [intOf]; omega
          · have q1 : ((bs x.text).toList == (bs y.text).toList) = false := by rw [bs_toList, bs_toList, beq_eq_false_iff_ne]; exact ht
            have HT := Lib.hid ht
            clear ht
            have HP2 : Hid (Calls Tryd.prog 41 #[.agg #[.bool (!x.number), .bool x.hyphen, .string (bs x.text)]] W7 fun e w' => e = .returned (.int .i64 rx) ∧ Below W7.heap.size W7 w') := HRX.out W7
            go_wp2_with fail
            refine HP2.out.mono ?_
            rintro e wq ⟨rfl, hbq⟩
            clear q1 d1 d1n d1p
            have H2X := Lib.hid (BX.out.below hbq BX.out.lt)
            have H2Y := Lib.hid (BY.out.below hbq BY.out.lt)
            have H2B := Lib.hid (BB.out.trans (hbq.mono BB.out.size))
            clear HP2 x0 x1 x2 xl y0 y1 y2 yl BX BY BB
            have BX := H2X
            have BY := H2Y
            have BB := H2B
            clear H2X H2Y H2B
            generalize wq = W8 at *
            have x0 := BX.out.cell 0 _ rfl
            have x1 := BX.out.cell 1 _ rfl
            have x2 := BX.out.cell 2 _ rfl
            have xl := BX.out.lt
            have y0 := BY.out.cell 0 _ rfl
            have y1 := BY.out.cell 1 _ rfl
            have y2 := BY.out.cell 2 _ rfl
            have yl := BY.out.lt
            have HTL : Hid ((∀ W, W = W8 → 7 < rx → x.text.length = y.text.length) → cv = if Op.bytesLess x.text y.text = true then -1 else 1) := fun h => HK5.out HRR.out (by omega) (h W8 rfl) HT.out
            by_cases h8 : 7 < rx
            · have d1 : decide ((7 : Int) < (rx : Int)) = true := decide_eq_true (by omega)
              have d1n : decide (7 < rx) = true := decide_eq_true h8
              have d1p : (7 : Int) < (rx : Int) := by omega
              by_cases hl : x.text.length = y.text.length
              · have q2 : (((bs x.text).size : Int) == ((bs y.text).size : Int)) = true := by rw [bs_size, bs_size, beq_iff_eq]; omega
                have q2n : ((bs x.text).size == (bs y.text).size) = true := by rw [bs_size, bs_size, beq_iff_eq]; exact hl
                have HCW := Lib.hid (HTL.out fun _ _ _ => hl)
                clear hl
                have q4 : Op.bytesLess (bs x.text).toList (bs y.text).toList = Op.bytesLess x.text y.text := by rw [bs_toList, bs_toList]
                cases hq5 : Op.bytesLess x.text y.text with
                | true =>
                  rw [hq5] at q4
                  have HCV : Hid (cv = -1) := by show _ = _; rw [HCW.out, hq5]; rfl
                  clear HCW hq5 HTL
                  have HZ : Hid (compareV a.data.toList b.data.toList = -1) := by
                    show _ = _
                    rw [HC2.out, if_pos (by rw [HCV.out]; decide), HCV.out]
                  clear HCV
                  go_wp2
                  go_ret
                  exact ⟨by rw [HZ.out]; rfl, HB2.out.trans (BB.out.mono HB2.out.size)⟩
                | false =>
                  rw [hq5] at q4
                  have HCV : Hid (cv = 1) := by show _ = _; rw [HCW.out, hq5]; rfl
                  clear HCW hq5 HTL
                  have HZ : Hid (compareV a.data.toList b.data.toList = 1) := by
                    show _ = _
                    rw [HC2.out, if_pos (by rw [HCV.out]; decide), HCV.out]
                  clear HCV
                  go_wp2
                  go_ret
                  exact ⟨by rw [HZ.out]; rfl, HB2.out.trans (BB.out.mono HB2.out.size)⟩
              · have q2 : (((bs x.text).size : Int) == ((bs y.text).size : Int)) = false := by rw [bs_size, bs_size, beq_eq_false_iff_ne]; omega
                have q2n : ((bs x.text).size == (bs y.text).size) = false := by rw [bs_size, bs_size, beq_eq_false_iff_ne]; exact hl
                have HCW := Lib.hid (HK4.out HRR.out h8 hl)
                clear hl
                by_cases hl2 : x.text.length < y.text.length
                · have q3 : ((bs x.text).size : Int) < ((bs y.text).size : Int) := by rw [bs_size, bs_size]; omega
                  have q3n : (bs x.text).size < (bs y.text).size := by rw [bs_size, bs_size]; exact hl2
                  have HCV : Hid (cv = -1) := by show _ = _; rw [HCW.out, if_pos hl2]
                  clear hl2
                  have HZ : Hid (compareV a.data.toList b.data.toList = -1) := by
                    show _ = _
                    rw [HC2.out, if_pos (by rw [HCV.out]; decide), HCV.out]
                  clear HCV
                  go_wp2
                  go_ret
                  exact ⟨by rw [HZ.out]; rfl, HB2.out.trans (BB.out.mono HB2.out.size)⟩
                · have q3 : ¬ ((bs x.text).size : Int) < ((bs y.text).size : Int) := by rw [bs_size, bs_size]; omega
                  have q3n : ¬ (bs x.text).size < (bs y.text).size := by rw [bs_size, bs_size]; exact hl2
                  have HCV : Hid (cv = 1) := by show _ = _; rw [HCW.out, if_neg hl2]
                  clear hl2
                  have HZ : Hid (compareV a.data.toList b.data.toList = 1) := by
                    show _ = _
                    rw [HC2.out, if_pos (by rw [HCV.out]; decide), HCV.out]
                  clear HCV
                  go_wp2
                  go_ret
                  exact ⟨by rw [HZ.out]; rfl, HB2.out.trans (BB.out.mono HB2.out.size)⟩
            · have d1 : decide ((7 : Int) < (rx : Int)) = false := decide_eq_false (by omega)
              have d1n : decide (7 < rx) = false := decide_eq_false h8
              have d1p : ¬ (7 : Int) < (rx : Int) := by omega
              have HCW := Lib.hid (HTL.out fun _ _ h => absurd h h8)
              have q4 : Op.bytesLess (bs x.text).toList (bs y.text).toList = Op.bytesLess x.text y.text := by rw [bs_toList, bs_toList]
              cases hq5 : Op.bytesLess x.text y.text with
              | true =>
                rw [hq5] at q4
                have HCV : Hid (cv = -1) := by show _ = _; rw [HCW.out, hq5]; rfl
                clear HCW hq5 HTL
                have HZ : Hid (compareV a.data.toList b.data.toList = -1) := by
                  show _ = _
                  rw [HC2.out, if_pos (by rw [HCV.out]; decide), HCV.out]
                clear HCV
                go_wp2
                go_ret
                exact ⟨by rw [HZ.out]; rfl, HB2.out.trans (BB.out.mono HB2.out.size)⟩
              | false =>
                rw [hq5] at q4
                have HCV : Hid (cv = 1) := by show _ = _; rw [HCW.out, hq5]; rfl
                clear HCW hq5 HTL
                have HZ : Hid (compareV a.data.toList b.data.toList = 1) := by
                  show _ = _
                  rw [HC2.out, if_pos (by rw [HCV.out]; decide), HCV.out]
                clear HCV
                go_wp2
                go_ret
                exact ⟨by rw [HZ.out]; rfl, HB2.out.trans (BB.out.mono HB2.out.size)⟩
      · have e1 : ((rx : Int) == (ry : Int)) = false := by rw [beq_eq_false_iff_ne]; omega
        have e1n : (rx == ry) = false := by rw [beq_eq_false_iff_ne]; exact hrr
        replace HK1 := Lib.hid (HK1.out hrr)
        clear hrr
        have x0 := BX.out.cell 0 _ rfl
        have x1 := BX.out.cell 1 _ rfl
        have x2 := BX.out.cell 2 _ rfl
        have xl := BX.out.lt
        have y0 := BY.out.cell 0 _ rfl
        have y1 := BY.out.cell 1 _ rfl
        have y2 := BY.out.cell 2 _ rfl
        have yl := BY.out.lt
        have hLL := @Later.cells W6
        have HPX : Hid (∀ z : Later W6, Calls Tryd.prog 41 #[.agg #[.bool (!x.number), .bool x.hyphen, .string (bs x.text)]] z.at_ fun e w'' => e = .returned (.int .i64 rx) ∧ ∃ u : Later W6, w'' = u.at_) := fun z => Later.call (HRX.out _)
        have HPY : Hid (∀ z : Later W6, Calls Tryd.prog 41 #[.agg #[.bool (!y.number), .bool y.hyphen, .string (bs y.text)]] z.at_ fun e w'' => e = .returned (.int .i64 ry) ∧ ∃ u : Later W6, w'' = u.at_) := fun z => Later.call (HRY.out _)
        go_upto_region 11 with fail
        refine region_later (by kernel_rfl) (by kernel_rfl) ?_
        repeat (go_big_quiet_step ((go_at_call 41; first | (with_reducible exact HPX.out _) | (with_reducible exact HPY.out _))))
        refine wpQuiet_nil ?_
        rintro _ ⟨nx, rfl⟩
        have H2X := Lib.hid (BX.out.below nx.below BX.out.lt)
        have H2Y := Lib.hid (BY.out.below nx.below BY.out.lt)
        have H2B := Lib.hid (BB.out.trans (nx.below.mono BB.out.size))
        clear hLL HPX HPY x0 x1 x2 xl y0 y1 y2 yl BX BY BB
        have BX := H2X
        have BY := H2Y
        have BB := H2B
        clear H2X H2Y H2B
        generalize nx.at_ = W7 at *
        by_cases hlr : rx < ry
        · have d1 : (rx : Int) < (ry : Int) := by omega
          have HCV : Hid (cv = -1) := by show _ = _; rw [HK1.out, if_pos hlr]
          have HZ : Hid (compareV a.data.toList b.data.toList = -1) := by
            show _ = _
            rw [HC2.out, if_pos (by rw [HCV.out]; decide), HCV.out]
          clear HCV
          go_wp2
          go_ret
          exact ⟨by rw [HZ.out]; rfl, HB2.out.trans (BB.out.mono HB2.out.size)⟩
        · have d1 : ¬ (rx : Int) < (ry : Int) := by omega
          have HCV : Hid (cv = 1) := by show _ = _; rw [HK1.out, if_neg hlr]
          have HZ : Hid (compareV a.data.toList b.data.toList = 1) := by
            show _ = _
            rw [HC2.out, if_pos (by rw [HCV.out]; decide), HCV.out]
          clear HCV
          go_wp2
          go_ret
          exact ⟨by rw [HZ.out]; rfl, HB2.out.trans (BB.out.mono HB2.out.size)⟩
    · obtain rfl : k = N := by omega
      have hor : (qa || qb) = false := by
        have h1 := HQA.out; have h2 := HQB.out; have h3 := HNM.out
        change _ = _ at h1; change _ = _ at h2; change _ = _ at h3
        rw [← h1, ← h2, Bool.or_eq_false_iff, decide_eq_false_iff_not, decide_eq_false_iff_not]; omega
      have HC4 : Hid (compareV a.data.toList b.data.toList = 0) := by show _ = _; rw [HC.out, Nat.sub_self]; rfl
      clear HC
      rw [hor]
      go_wp2
      go_ret
      exact ⟨by rw [HC4.out]; rfl, HB2.out.trans (HB.out.mono HB2.out.size)⟩

end Go.Proofs.YtecffghcpknmjaaDoor
