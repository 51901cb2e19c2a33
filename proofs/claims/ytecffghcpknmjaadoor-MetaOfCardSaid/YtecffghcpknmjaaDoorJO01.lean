/- Stable sorting of plain lists: there is one answer alone; what a merge by halves needs; no program in sight. -/
import Derived.Test.YtecffghcpknmjaaDoorL0
import Derived.Test.YtecffghcpknmjaaDoorV8
import Derived.Test.YtecffghcpknmjaaDoorOwn
import Derived.Test.YtecffghcpknmjaaDoorL1
import Derived.Test.YtecffghcpknmjaaDoorG1
import Derived.StillTailTactics
import Derived.IntWalk
import Derived.Test.YtecffghcpknmjaaDoorK19
import Derived.Test.YtecffghcpknmjaaDoorL11
import Derived.Test.YtecffghcpknmjaaDoorG2
import Derived.Test.YtecffghcpknmjaaDoorQB
import Derived.Deep.CutBlock

namespace Go.Proofs.YtecffghcpknmjaaDoor
open Go Go.RowKit

variable {α : Type} {lt : α → α → Bool}
/-- A strict weak order. -/
structure Weak (lt : α → α → Bool) : Prop where
  irr : ∀ a, lt a a = false
  asym : ∀ a b, lt a b = true → lt b a = false
  neg : ∀ a b c, lt a c = true → lt a b = true ∨ lt b c = true
def eqvB (lt : α → α → Bool) (a b : α) : Bool := !lt a b && !lt b a
def Srt (lt : α → α → Bool) (l : List α) : Prop := l.Pairwise fun a b => lt b a = false
/-- Of each class the same elements, in the same order. -/
def SameE (lt : α → α → Bool) (l m : List α) : Prop := ∀ x, l.filter (eqvB lt x) = m.filter (eqvB lt x)
theorem SameE.refl (l : List α) : SameE lt l l := fun _ => rfl
theorem SameE.symm {l m : List α} (h : SameE lt l m) : SameE lt m l := fun x => (h x).symm
theorem SameE.trans {l m n : List α} (h : SameE lt l m) (g : SameE lt m n) : SameE lt l n := fun x => (h x).trans (g x)
theorem SameE.app {a b c d : List α} (h : SameE lt a b) (g : SameE lt c d) : SameE lt (a ++ c) (b ++ d) := fun x => by rw [List.filter_append, List.filter_append, h x, g x]
theorem eqvB_iff {a b : α} : eqvB lt a b = true ↔ lt a b = false ∧ lt b a = false := by unfold eqvB; simp
theorem Weak.eqv_refl (H : Weak lt) (a : α) : eqvB lt a a = true := eqvB_iff.2 ⟨H.irr a, H.irr a⟩
theorem Weak.leT (H : Weak lt) {a b c : α} (h : lt b a = false) (g : lt c b = false) : lt c a = false := by
  cases e : lt c a with
  | false => rfl
  | true => rcases H.neg c b a e with h' | h' <;> simp_all
theorem Weak.lt_of (H : Weak lt) {a b c : α} (h : lt a b = true) (g : lt c b = false) : lt a c = true := by
  rcases H.neg a c b h with h' | h'
  · exact h'
  · rw [g] at h'; cases h'
theorem Weak.of_lt (H : Weak lt) {a b c : α} (h : lt b a = false) (g : lt b c = true) : lt a c = true := by
  rcases H.neg b a c g with h' | h'
  · rw [h] at h'; cases h'
  · exact h'
theorem SameE.mem (H : Weak lt) {l m : List α} (h : SameE lt l m) {x : α} (hx : x ∈ l) : x ∈ m := by
  have h1 : x ∈ l.filter (eqvB lt x) := List.mem_filter.2 ⟨hx, H.eqv_refl x⟩
  rw [h x] at h1
  exact (List.mem_filter.1 h1).1
theorem SameE.mem_iff (H : Weak lt) {l m : List α} (h : SameE lt l m) (x : α) : x ∈ l ↔ x ∈ m := ⟨h.mem H, h.symm.mem H⟩
theorem SameE.count [DecidableEq α] (H : Weak lt) {l m : List α} (h : SameE lt l m) (x : α) : l.count x = m.count x := by
  have e : ∀ k : List α, (k.filter (eqvB lt x)).count x = k.count x := fun k => List.count_filter (H.eqv_refl x)
  rw [← e l, ← e m, h x]
theorem SameE.perm [DecidableEq α] (H : Weak lt) {l m : List α} (h : SameE lt l m) : l.Perm m := List.perm_iff_count.2 (h.count H)
/-- What stands between may be taken off. -/
theorem SameE.mid {p q a b : List α} (h : SameE lt (p ++ a ++ q) (p ++ b ++ q)) : SameE lt a b := fun x => by
  have := h x
  simp only [List.filter_append, List.append_assoc] at this
  have h2 := List.append_cancel_left this
  exact List.append_cancel_right h2
theorem SameE.turn (H : Weak lt) {u v : List α} (h : ∀ a ∈ u, ∀ b ∈ v, lt b a = true) : SameE lt (u ++ v) (v ++ u) := fun x => by
  rw [List.filter_append, List.filter_append]
  by_cases hu : ∃ a ∈ u, eqvB lt x a = true
  · obtain ⟨a, ha, hxa⟩ := hu
    have : v.filter (eqvB lt x) = [] := by
      rw [List.filter_eq_nil_iff]
      intro b hb hxb
      have h1 := eqvB_iff.1 hxa
      have h2 := eqvB_iff.1 hxb
      have h3 := h a ha b hb
      have h4 : lt b x = true := H.lt_of h3 h1.1
      rw [h2.2] at h4; cases h4
    rw [this, List.append_nil, List.nil_append]
  · have : u.filter (eqvB lt x) = [] := by
      rw [List.filter_eq_nil_iff]
      exact fun a ha hxa => hu ⟨a, ha, hxa⟩
    rw [this, List.append_nil, List.nil_append]
theorem srt_uniq (H : Weak lt) : ∀ {l m : List α}, Srt lt l → Srt lt m → SameE lt l m → l = m
  | [], [], _, _, _ => rfl
  | [], b :: m, _, _, h => by have := h.symm.mem H (List.mem_cons_self (a := b) (l := m)); simp at this
  | a :: l, [], _, _, h => by have := h.mem H (List.mem_cons_self (a := a) (l := l)); simp at this
  | a :: l, b :: m, hl, hm, h => by
    have ha : ∀ x ∈ a :: l, lt x a = false := fun x hx => by
      rcases List.mem_cons.1 hx with rfl | hx
      · exact H.irr _
      · exact (List.pairwise_cons.1 hl).1 x hx
    have hb : ∀ x ∈ b :: m, lt x b = false := fun x hx => by
      rcases List.mem_cons.1 hx with rfl | hx
      · exact H.irr _
      · exact (List.pairwise_cons.1 hm).1 x hx
    have h1 : lt a b = false := hb a (h.mem H List.mem_cons_self)
    have h2 : lt b a = false := ha b (h.symm.mem H List.mem_cons_self)
    have e := h a
    rw [List.filter_cons_of_pos (H.eqv_refl a), List.filter_cons_of_pos (eqvB_iff.2 ⟨h1, h2⟩)] at e
    injection e with e1 e2
    subst e1
    have h3 : SameE lt l m := fun x => by
      have e := h x
      by_cases hx : eqvB lt x a = true
      · rw [List.filter_cons_of_pos hx, List.filter_cons_of_pos hx] at e
        injection e
      · rw [List.filter_cons_of_neg hx, List.filter_cons_of_neg hx] at e
        exact e
    rw [srt_uniq H (List.pairwise_cons.1 hl).2 (List.pairwise_cons.1 hm).2 h3]
theorem Srt.app {a b : List α} (ha : Srt lt a) (hb : Srt lt b) (h : ∀ x ∈ a, ∀ y ∈ b, lt y x = false) : Srt lt (a ++ b) := List.pairwise_append.2 ⟨ha, hb, h⟩
theorem Srt.left {a b : List α} (h : Srt lt (a ++ b)) : Srt lt a := (List.pairwise_append.1 h).1
theorem Srt.right {a b : List α} (h : Srt lt (a ++ b)) : Srt lt b := (List.pairwise_append.1 h).2.1
theorem Srt.across {a b : List α} (h : Srt lt (a ++ b)) : ∀ x ∈ a, ∀ y ∈ b, lt y x = false := (List.pairwise_append.1 h).2.2
theorem srt_nil : Srt lt ([] : List α) := List.Pairwise.nil
theorem srt_one (x : α) : Srt lt [x] := List.pairwise_singleton _ _
/-! Insertion: x behind m1, ahead of m2. -/
theorem ins_srt (H : Weak lt) {m1 m2 : List α} {x : α} (h : Srt lt (m1 ++ m2)) (h1 : ∀ y ∈ m1, lt x y = false) (h2 : ∀ y ∈ m2, lt x y = true) : Srt lt (m1 ++ x :: m2) := by
  refine Srt.app h.left (List.pairwise_cons.2 ⟨fun y hy => H.asym _ _ (h2 y hy), h.right⟩) fun y hy z hz => ?_
  rcases List.mem_cons.1 hz with rfl | hz
  · exact h1 y hy
  · exact h.across y hy z hz
theorem ins_same (H : Weak lt) {m1 m2 : List α} {x : α} (h2 : ∀ y ∈ m2, lt x y = true) : SameE lt ((m1 ++ m2) ++ [x]) (m1 ++ x :: m2) := by
  rw [List.append_assoc]
  refine (SameE.refl m1).app ?_
  have := SameE.turn H (u := m2) (v := [x]) (fun a ha b hb => by rw [List.mem_singleton] at hb; rw [hb]; exact h2 a ha)
  simpa using this
/-- What is not above the last of a sorted row is above none. -/
theorem srt_last (H : Weak lt) {m : List α} {x y : α} (h : Srt lt (m ++ [y])) (hx : lt x y = false) : ∀ z ∈ m ++ [y], lt x z = false := fun z hz => by
  rcases List.mem_append.1 hz with hz | hz
  · exact H.leT (h.across z hz y (List.mem_singleton.2 rfl)) hx
  · rw [List.mem_singleton.1 hz]; exact hx
/-- A row of sorted pieces of s elements each, the last one of as many or fewer. -/
inductive Chunks (lt : α → α → Bool) (s : Nat) : List α → Prop
  | last (l : List α) : l.length ≤ s → Srt lt l → Chunks lt s l
  | cons (a r : List α) : a.length = s → Srt lt a → Chunks lt s r → Chunks lt s (a ++ r)
/-- All pieces of s elements. -/
inductive Full (lt : α → α → Bool) (s : Nat) : List α → Prop
  | nil : Full lt s []
  | snoc (p a : List α) : Full lt s p → a.length = s → Srt lt a → Full lt s (p ++ a)
theorem Chunks.whole {s : Nat} {l : List α} (h : Chunks lt s l) (hl : l.length ≤ s) : Srt lt l := by
  cases h with
  | last _ _ h2 => exact h2
  | cons a r h1 h2 h3 =>
    have : r = [] := List.eq_nil_of_length_eq_zero (by rw [List.length_append] at hl; omega)
    rw [this, List.append_nil]; exact h2
/-- The first piece, where there is more than one of them. -/
theorem Chunks.first {s : Nat} {l : List α} (h : Chunks lt s l) (hl : s ≤ l.length) : ∃ a r, l = a ++ r ∧ a.length = s ∧ Srt lt a ∧ Chunks lt s r := by
  cases h with
  | last _ h1 h2 => exact ⟨l, [], by simp, by omega, h2, .last _ (Nat.zero_le _) srt_nil⟩
  | cons a r h1 h2 h3 => exact ⟨a, r, rfl, h1, h2, h3⟩
theorem Full.chunks {s : Nat} {p : List α} (h : Full lt s p) : ∀ {r : List α}, Chunks lt s r → Chunks lt s (p ++ r) := by
  induction h with
  | nil => exact fun h => by simpa using h
  | snoc p a _ h1 h2 ih => exact fun h => by rw [List.append_assoc]; exact ih (.cons a _ h1 h2 h)
/-! A merge by halves. -/
theorem getElem_mem' {l : List α} {k : Nat} {x : α} (h : l[k]? = some x) : x ∈ l := List.mem_of_getElem? h
theorem srt_at {l : List α} (h : Srt lt l) {i j : Nat} {x y : α} (hx : l[i]? = some x) (hy : l[j]? = some y) (hij : i < j) : lt y x = false := by
  obtain ⟨h1, rfl⟩ := List.getElem?_eq_some_iff.1 hx
  obtain ⟨h2, rfl⟩ := List.getElem?_eq_some_iff.1 hy
  exact List.pairwise_iff_getElem.1 h i j h1 h2 hij
theorem srt_at' (H : Weak lt) {l : List α} (h : Srt lt l) {i j : Nat} {x y : α} (hx : l[i]? = some x) (hy : l[j]? = some y) (hij : i ≤ j) : lt y x = false := by
  rcases Nat.lt_or_ge i j with h' | h'
  · exact srt_at h hx hy h'
  · obtain rfl : i = j := by omega
    rw [hx] at hy; cases hy; exact H.irr _
/-- Where two sorted rows are cut: what goes over lies below all that it goes over, and what stays is in order. -/
theorem halves (H : Weak lt) {U V : List α} (hU : Srt lt U) (hV : Srt lt V) {i j : Nat} (_hi : i ≤ U.length) (_hj : j ≤ V.length)
    (h1 : ∀ x y, U[i]? = some x → 0 < j → V[j - 1]? = some y → lt y x = true) (h2 : ∀ x y, 0 < i → U[i - 1]? = some x → V[j]? = some y → lt y x = false) :
    (∀ x ∈ U.drop i, ∀ y ∈ V.take j, lt y x = true) ∧ (∀ x ∈ U.take i, ∀ y ∈ V.drop j, lt y x = false) := by
  constructor
  · intro x hx y hy
    obtain ⟨k, hk⟩ := List.getElem?_of_mem hx
    obtain ⟨m, hm⟩ := List.getElem?_of_mem hy
    rw [List.getElem?_drop] at hk
    rw [List.getElem?_take] at hm
    split at hm
    · rename_i hmj
      have hj0 : 0 < j := by omega
      have hil : i < U.length := by have := (List.getElem?_eq_some_iff.1 hk).1; omega
      have a := h1 U[i] V[j - 1] (List.getElem?_eq_getElem hil) hj0 (List.getElem?_eq_getElem (by omega))
      have b : lt x U[i] = false := srt_at' H hU (List.getElem?_eq_getElem hil) hk (by omega)
      have c : lt V[j - 1] y = false := srt_at' H hV hm (List.getElem?_eq_getElem (by omega)) (by omega)
      exact H.lt_of (H.of_lt c a) b
    · cases hm
  · intro x hx y hy
    obtain ⟨k, hk⟩ := List.getElem?_of_mem hx
    obtain ⟨m, hm⟩ := List.getElem?_of_mem hy
    rw [List.getElem?_drop] at hm
    rw [List.getElem?_take] at hk
    split at hk
    · rename_i hki
      have hi0 : 0 < i := by omega
      have hjl : j < V.length := by have := (List.getElem?_eq_some_iff.1 hm).1; omega
      have a := h2 U[i - 1] V[j] hi0 (List.getElem?_eq_getElem (by omega)) (List.getElem?_eq_getElem hjl)
      have b : lt U[i - 1] x = false := srt_at' H hU hk (List.getElem?_eq_getElem (by omega)) (by omega)
      have c : lt y V[j] = false := srt_at' H hV (List.getElem?_eq_getElem hjl) hm (by omega)
      exact H.leT (H.leT b a) c
    · cases hk
/-- The two halves, each merged, are the whole, merged. -/
theorem halves_join (H : Weak lt) {U1 U2 V1 V2 M1 M2 : List α} (hU : Srt lt (U1 ++ U2)) (hV : Srt lt (V1 ++ V2)) (h1 : ∀ x ∈ U2, ∀ y ∈ V1, lt y x = true) (h2 : ∀ x ∈ U1, ∀ y ∈ V2, lt y x = false)
    (s1 : Srt lt M1) (s2 : Srt lt M2) (e1 : SameE lt (U1 ++ V1) M1) (e2 : SameE lt (U2 ++ V2) M2) : Srt lt (M1 ++ M2) ∧ SameE lt ((U1 ++ U2) ++ (V1 ++ V2)) (M1 ++ M2) := by
  constructor
  · refine s1.app s2 fun x hx y hy => ?_
    rcases List.mem_append.1 (e1.symm.mem H hx) with hx | hx
    · rcases List.mem_append.1 (e2.symm.mem H hy) with hy | hy
      · exact hU.across x hx y hy
      · exact h2 x hx y hy
    · rcases List.mem_append.1 (e2.symm.mem H hy) with hy | hy
      · exact H.asym _ _ (h1 y hy x hx)
      · exact hV.across x hx y hy
  · refine SameE.trans ?_ (e1.app e2)
    have := SameE.turn H h1
    have h3 := ((SameE.refl U1).app (this.app (SameE.refl V2)))
    simpa [List.append_assoc] using h3

end Go.Proofs.YtecffghcpknmjaaDoor

/- The order of versions is a weak order; plain laws, no program in sight. -/

namespace Go.Proofs.YtecffghcpknmjaaDoor
open Go Go.RowKit

/-- A comparison: turned about it answers the other way; what is not above goes on. -/
structure Cmpr {α : Type} (c : α → α → Int) : Prop where
  flip : ∀ a b, c b a = - c a b
  le : ∀ a b d, c a b ≤ 0 → c b d ≤ 0 → c a d ≤ 0
def lexC {α : Type} (c d : α → α → Int) (a b : α) : Int := if c a b ≠ 0 then c a b else d a b
theorem Cmpr.ltle {α : Type} {c : α → α → Int} (h : Cmpr c) {a b d : α} (h1 : c a b < 0) (h2 : c b d ≤ 0) : c a d < 0 := by
  have h3 := h.le a b d (by omega) h2
  by_cases h4 : c a d = 0
  · have h5 : c d a ≤ 0 := by rw [h.flip]; omega
    have h6 := h.le b d a h2 h5
    rw [h.flip] at h6; omega
  · omega
theorem Cmpr.lelt {α : Type} {c : α → α → Int} (h : Cmpr c) {a b d : α} (h1 : c a b ≤ 0) (h2 : c b d < 0) : c a d < 0 := by
  have h3 := h.le a b d h1 (by omega)
  by_cases h4 : c a d = 0
  · have h5 : c d a ≤ 0 := by rw [h.flip]; omega
    have h6 := h.le d a b h5 h1
    rw [h.flip] at h6; omega
  · omega
theorem Cmpr.lex {α : Type} {c d : α → α → Int} (h : Cmpr c) (g : Cmpr d) : Cmpr (lexC c d) := by
  constructor
  · intro a b
    unfold lexC
    rw [h.flip a b]
    by_cases e : c a b = 0
    · rw [e]; simp [g.flip a b]
    · rw [if_pos (by omega), if_pos e]
  · intro a b e h1 h2
    unfold lexC at h1 h2 ⊢
    by_cases e1 : c a b = 0
    · rw [if_neg (by simpa using e1)] at h1
      by_cases e2 : c b e = 0
      · rw [if_neg (by simpa using e2)] at h2
        have h3 := h.le a b e (by omega) (by omega)
        have h4 : c a e = 0 := by
          have h5 := h.le e b a (by rw [h.flip]; omega) (by rw [h.flip]; omega)
          rw [h.flip] at h5; omega
        rw [if_neg (by simpa using h4)]
        exact g.le a b e h1 h2
      · rw [if_pos e2] at h2
        have h3 := h.lelt (a := a) (b := b) (d := e) (by omega) (by omega)
        rw [if_pos (by omega)]; omega
    · rw [if_pos e1] at h1
      have h2' : c b e ≤ 0 := by
        by_cases e2 : c b e = 0
        · omega
        · rw [if_pos e2] at h2; exact h2
      have h3 := h.ltle (a := a) (b := b) (d := e) (by omega) h2'
      rw [if_pos (by omega)]; omega
theorem Cmpr.via {α β : Type} {c : β → β → Int} (h : Cmpr c) (f : α → β) : Cmpr (fun a b => c (f a) (f b)) := ⟨fun _ _ => h.flip _ _, fun _ _ _ => h.le _ _ _⟩
theorem Cmpr.none {α : Type} : Cmpr (fun _ _ : α => (0 : Int)) := ⟨fun _ _ => rfl, fun _ _ _ _ _ => Int.le_refl _⟩
theorem Cmpr.eq {α : Type} {c d : α → α → Int} (h : Cmpr c) (e : ∀ a b, d a b = c a b) : Cmpr d := by
  have : d = c := funext fun a => funext fun b => e a b
  rw [this]; exact h
theorem sgn_cmpr : Cmpr sgnV := by
  constructor
  · intro a b
    unfold sgnV
    by_cases h1 : a < b <;> by_cases h2 : b < a <;> simp [h1, h2] <;> omega
  · intro a b d h1 h2
    unfold sgnV at *
    split at h1 <;> split at h2 <;> split <;> (try split at h1) <;> (try split at h2) <;> (try split) <;> omega
theorem bytes_cmpr : Cmpr Lib.compareBytes := by
  refine ⟨fun a b => cmpB_anti a b, fun a b d h1 h2 => ?_⟩
  rcases cmpB_range a b with e1 | e1 | e1
  · rcases cmpB_range b d with e2 | e2 | e2
    · rw [cmpB_trans e1 e2]; omega
    · rw [← cmpB_eq e2]; omega
    · omega
  · rw [cmpB_eq e1]; exact h2
  · omega
def lenK (p : PartV) : Int := if 7 < rankV p then p.text.length else 0
def txtK (p : PartV) : Bs := if 7 ≤ rankV p then p.text else []
theorem cmpV_lex (p q : PartV) : cmpV p q = lexC (fun a b => sgnV (rankV a) (rankV b)) (lexC (fun a b => sgnV (lenK a) (lenK b)) (fun a b => Lib.compareBytes (txtK a) (txtK b))) p q := by
  unfold cmpV lexC
  by_cases h : sgnV (rankV p) (rankV q) ≠ 0
  · rw [if_pos h, if_pos h]
  · rw [if_neg h, if_neg h]
    have he : rankV p = rankV q := by
      have h' : sgnV (rankV p) (rankV q) = 0 := by simpa using h
      unfold sgnV at h'
      split at h'
      · omega
      · split at h' <;> omega
    simp only []
    unfold lenK txtK
    rw [← he]
    by_cases h7 : rankV p = 7
    · rw [if_pos h7, h7]; simp [sgnV]
    · rw [if_neg h7]
      by_cases h8 : 7 < rankV p
      · have h9 : 7 ≤ rankV p := by omega
        simp only [if_pos h8, if_pos h9]
      · have h9 : ¬ 7 ≤ rankV p := by omega
        simp only [if_neg h8, if_neg h9]
        simp [sgnV, cmpB_refl]
theorem cmpV_cmpr : Cmpr cmpV := Cmpr.eq ((sgn_cmpr.via fun a : PartV => (rankV a : Int)).lex ((sgn_cmpr.via lenK).lex (bytes_cmpr.via txtK))) cmpV_lex
theorem cmpV_self (p : PartV) : cmpV p p = 0 := by have := cmpV_cmpr.flip p p; omega
theorem cmpFrom_cmpr : ∀ n i, Cmpr (fun l m => cmpFrom l m n i)
  | 0, _ => Cmpr.none
  | n + 1, i => Cmpr.eq ((cmpV_cmpr.via fun l : List PartV => atV l i).lex (cmpFrom_cmpr n (i + 1))) fun _ _ => rfl
theorem atV_out {l : List PartV} {i : Nat} (h : l.length ≤ i) : atV l i = nullV := by unfold atV; rw [List.getElem?_eq_none h]; rfl
theorem cmpFrom_out {l m : List PartV} : ∀ n i, l.length ≤ i → m.length ≤ i → cmpFrom l m n i = 0
  | 0, _, _, _ => rfl
  | n + 1, i, h1, h2 => by
    unfold cmpFrom
    rw [atV_out h1, atV_out h2, cmpV_self]
    simp
    exact cmpFrom_out n (i + 1) (by omega) (by omega)
theorem cmpFrom_more {l m : List PartV} : ∀ n k i, l.length ≤ i + n → m.length ≤ i + n → cmpFrom l m (n + k) i = cmpFrom l m n i
  | 0, k, i, h1, h2 => by rw [cmpFrom_out _ i (by omega) (by omega)]; rfl
  | n + 1, k, i, h1, h2 => by
    rw [show n + 1 + k = (n + k) + 1 by omega]
    unfold cmpFrom
    rw [cmpFrom_more n k (i + 1) (by omega) (by omega)]
theorem compareV_at {a b : Bs} {N : Nat} (h1 : (partsV a).length ≤ N) (h2 : (partsV b).length ≤ N) : compareV a b = cmpFrom (partsV a) (partsV b) N 0 := by
  unfold compareV
  obtain ⟨k, rfl⟩ : ∃ k, N = max (partsV a).length (partsV b).length + k := ⟨N - max (partsV a).length (partsV b).length, by omega⟩
  rw [cmpFrom_more _ k 0 (by omega) (by omega)]
theorem compareV_cmpr : Cmpr compareV := by
  constructor
  · intro a b
    rw [compareV_at (N := max (partsV a).length (partsV b).length) (by omega) (by omega), compareV_at (N := max (partsV a).length (partsV b).length) (by omega) (by omega)]
    exact (cmpFrom_cmpr _ _).flip _ _
  · intro a b d
    have e : ∀ x y, (x = a ∨ x = b ∨ x = d) → (y = a ∨ y = b ∨ y = d) → compareV x y = cmpFrom (partsV x) (partsV y) ((partsV a).length + (partsV b).length + (partsV d).length) 0 := fun x y hx hy => compareV_at (by rcases hx with rfl | rfl | rfl <;> omega) (by rcases hy with rfl | rfl | rfl <;> omega)
    rw [e a b (by simp) (by simp), e b d (by simp) (by simp), e a d (by simp) (by simp)]
    exact (cmpFrom_cmpr _ _).le _ _ _
/-- The order of versions as texts. -/
def cmpSV (a b : S) : Int := compareV a.data.toList b.data.toList
def ltSV (a b : S) : Bool := decide (cmpSV a b < 0)
theorem Cmpr.weak {α : Type} {c : α → α → Int} (h : Cmpr c) : Weak (fun a b => decide (c a b < 0)) := by
  constructor
  · intro a
    have := h.flip a a
    simp; omega
  · intro a b h1
    have := h.flip a b
    simp at h1 ⊢; omega
  · intro a b d h1
    simp at h1 ⊢
    by_cases h2 : c a b < 0
    · exact .inl h2
    · right
      have h3 : c b a ≤ 0 := by rw [h.flip]; omega
      exact h.lelt h3 h1
theorem cmpSV_cmpr : Cmpr cmpSV := compareV_cmpr.via _
theorem ltSV_weak : Weak ltSV := cmpSV_cmpr.weak

end Go.Proofs.YtecffghcpknmjaaDoor

/- Maps whose keys are structs: what lookup, mapUpdate and the frame of an update are, for any program, key type and values; no program in sight. -/

namespace Go.Proofs.YtecffghcpknmjaaDoor
open Go Go.RowKit

structure MEnt (K : Type) where
  key : K
  val : Value
  born : Nat
def MEnt.ent {K : Type} (kc : K → Value) (e : MEnt K) : MapEntry := { key := kc e.key, val := e.val, born := e.born }
/-- Block m holds a map of these entries. -/
def MMap {K : Type} (kc : K → Value) (w : World) (m : Nat) (L : List (MEnt K)) (c : Nat) : Prop := w.heap[m]? = some (.map (L.map (MEnt.ent kc)).toArray c)
/-- What the keys of a map must do: a struct type, its equality, its check. -/
structure MKey {K : Type} [DecidableEq K] (P : Program) (tk : TypeId) (kc : K → Value) : Prop where
  str : ∃ fs, P.underlying tk = some (.struct fs)
  eq : ∀ (a b : K) (w : World), (Op.equal tk (kc a) (kc b)).run P w = .ok (decide (a = b)) w
  chk : ∀ (b : Bool) (k : K) (w : World), (Instr.checkKey b 10000 tk (kc k)).run P w = .ok () w
def mIdx {K : Type} [DecidableEq K] (L : List (MEnt K)) (k : K) : Option Nat := L.findIdx? (fun e => decide (k = e.key))
def mGet {K : Type} [DecidableEq K] (L : List (MEnt K)) (k : K) : Option Value := (L.find? (fun e => decide (k = e.key))).map (·.val)
theorem mGet_idx {K : Type} [DecidableEq K] (L : List (MEnt K)) (k : K) : ((mIdx L k).bind fun j => (L[j]?).map fun e => e.val) = mGet L k := by
  unfold mIdx mGet
  induction L with
  | nil => rfl
  | cons e L ih =>
    rw [List.findIdx?_cons, List.find?_cons]
    cases decide (k = e.key) with
    | true => simp
    | false =>
      rw [← ih]
      cases L.findIdx? (fun e => decide (k = e.key)) <;> simp
theorem mIdx_none {K : Type} [DecidableEq K] {L : List (MEnt K)} {k : K} : mIdx L k = none ↔ mGet L k = none := by
  unfold mIdx mGet
  rw [Option.map_eq_none_iff, List.findIdx?_eq_none_iff, List.find?_eq_none]
  simp
theorem run_findAskingM {K : Type} [DecidableEq K] {P : Program} {tk : TypeId} {kc : K → Value} (hk : MKey P tk kc) (k : K) (w : World) : ∀ (L : List (MEnt K)) (i : Nat), (Instr.findAsking tk (kc k) (L.map (MEnt.ent kc)) i).run P w =
    .ok ((mIdx L k).bind fun j => (L[j]?).map fun e => (i + j, e.val)) w
  | [], i => by simp [Instr.findAsking, mIdx]
  | e :: L, i => by
    simp only [List.map_cons, Instr.findAsking, Sem.run_bind, MEnt.ent, hk.eq, Result.andThen_ok, mIdx, List.findIdx?_cons]
    by_cases h : k = e.key
    · simp [h]
    · simp only [h, decide_false, Bool.false_eq_true, if_false]
      have ih := run_findAskingM hk k w L (i + 1)
      unfold mIdx at ih
      rw [ih]
      congr 1
      cases L.findIdx? (fun e => decide (k = e.key)) <;> simp [Nat.add_assoc, Nat.add_comm 1]
theorem run_findKeyM {K : Type} [DecidableEq K] {P : Program} {tk : TypeId} {kc : K → Value} (hk : MKey P tk kc) (k : K) (w : World) (L : List (MEnt K)) : (Instr.findKey tk (kc k) (L.map (MEnt.ent kc))).run P w =
    .ok ((mIdx L k).bind fun j => (L[j]?).map fun e => (j, e.val)) w := by
  obtain ⟨fs, hu⟩ := hk.str
  simp only [Instr.findKey, Sem.run_bind, run_underlying hu, Result.andThen_ok]
  cases L with
  | nil => simp [Instr.findNow, mIdx]
  | cons e L =>
    have h := run_findAskingM hk k w (e :: L) 0
    simp only [Nat.zero_add] at h
    simp only [List.map_cons, Instr.findNow, MEnt.ent, Instr.sameNow] at h ⊢
    exact h
theorem run_lookupM {K : Type} [DecidableEq K] {P : Program} {tk te tm : TypeId} {kc : K → Value} (hk : MKey P tk kc) (ht : P.underlying tm = some (.map tk te)) {z : Value} (hz : ∀ w, (zeroValue te).run P w = .ok z w) {w : World} {m : Nat} {L : List (MEnt K)} {c : Nat} (k : K) (h : MMap kc w m L c) :
    (Instr.lookup tm (.map (some m)) (kc k) false).run P w = .ok ((mGet L k).getD z) w := by
  simp only [Instr.lookup, Sem.run_bind, run_underlying ht, Result.andThen_ok]
  have hg : (getObj m).run P w = .ok (.map (L.map (MEnt.ent kc)).toArray c) w := by simp [getObj, Sem.run, show w.heap[m]? = _ from h]
  simp only [hg, Sem.run_bind, Result.andThen_ok, Sem.run_pure, hk.chk, run_findKeyM hk]
  rw [← mGet_idx]
  cases hj : mIdx L k with
  | none => simp [hz]
  | some j =>
    have hlt : j < L.length := by
      unfold mIdx at hj
      have := List.findIdx?_eq_some_iff_findIdx_eq.1 hj; omega
    simp [hlt]
def mSet {K : Type} (kc : K → Value) (w : World) (m : Nat) (L : List (MEnt K)) (c : Nat) : World := { w with heap := w.heap.setIfInBounds m (.map (L.map (MEnt.ent kc)).toArray c) }
theorem run_updateM_new {K : Type} [DecidableEq K] {P : Program} {tk te tm : TypeId} {kc : K → Value} (hk : MKey P tk kc) (ht : P.underlying tm = some (.map tk te)) {w : World} {m : Nat} {L : List (MEnt K)} {c : Nat} (k : K) (v : Value) (h : MMap kc w m L c) (hn : mIdx L k = none) :
    (Instr.mapUpdate tm (.map (some m)) (kc k) v).run P w = .ok () (mSet kc w m (L ++ [⟨k, v, c⟩]) (c + 1)) := by
  simp only [Instr.mapUpdate, Sem.run_bind, run_underlying ht, Result.andThen_ok]
  have hg : (getObj m).run P w = .ok (.map (L.map (MEnt.ent kc)).toArray c) w := by simp [getObj, Sem.run, show w.heap[m]? = _ from h]
  have hset : ∀ o, (setObj m o).run P w = .ok () { w with heap := w.heap.setIfInBounds m o } := fun o => by simp [setObj, Sem.run, show w.heap[m]? = _ from h]
  simp only [hg, Sem.run_bind, Result.andThen_ok, hk.chk, run_findKeyM hk, hn]
  simp [hset, mSet, MEnt.ent]
theorem MMap.lt {K : Type} {kc : K → Value} {w : World} {m : Nat} {L : List (MEnt K)} {c : Nat} (h : MMap kc w m L c) : m < w.heap.size := (Array.getElem?_eq_some_iff.1 h).1
theorem mSet_is {K : Type} {kc : K → Value} {w : World} {m : Nat} {L L' : List (MEnt K)} {c c' : Nat} (h : MMap kc w m L c) : MMap kc (mSet kc w m L' c') m L' c' := by
  have := h.lt
  simp [MMap, mSet, this]
theorem mSet_grown {K : Type} {kc : K → Value} (w : World) (m : Nat) (L : List (MEnt K)) (c : Nat) : w.grownBy (mSet kc w m L c) (some m) :=
  ⟨rfl, rfl, rfl, by simp [mSet], fun k _ hne => by
    have : m ≠ k := fun e => hne (by rw [e])
    simp [mSet, this]⟩
theorem MMap.grown {K : Type} {kc : K → Value} {w w' : World} {m : Nat} {L : List (MEnt K)} {c : Nat} {row : Option Nat} (h : MMap kc w m L c) (hg : w.grownBy w' row) (hne : some m ≠ row) : MMap kc w' m L c := (hg.block m h.lt hne).trans h
theorem MMap.below {K : Type} {kc : K → Value} {w w' : World} {m : Nat} {L : List (MEnt K)} {c B : Nat} (h : MMap kc w m L c) (hb : Below B w w') (hm : m < B) : MMap kc w' m L c := (hb.block m hm).trans h

end Go.Proofs.YtecffghcpknmjaaDoor

/- Maps whose keys are structs: an entry written again, what is found behind an update; blocks of which some may turn; no program in sight. -/

namespace Go.Proofs.YtecffghcpknmjaaDoor
open Go Go.RowKit

def mPut {K : Type} [DecidableEq K] (L : List (MEnt K)) (k : K) (v : Value) (c : Nat) : List (MEnt K) := match mIdx L k with
  | some j => L.modify j fun e => { e with val := v }
  | none => L ++ [⟨k, v, c⟩]
def mCnt {K : Type} [DecidableEq K] (L : List (MEnt K)) (k : K) (c : Nat) : Nat := if (mIdx L k).isSome then c else c + 1
theorem mIdx_some {K : Type} [DecidableEq K] {L : List (MEnt K)} {k : K} {j : Nat} (h : mIdx L k = some j) : ∃ hj : j < L.length, L[j].key = k := by
  obtain ⟨hj, hjk, -⟩ := List.findIdx?_eq_some_iff_getElem.1 h
  exact ⟨hj, by simpa using (of_decide_eq_true hjk).symm⟩
theorem run_updateM {K : Type} [DecidableEq K] {P : Program} {tk te tm : TypeId} {kc : K → Value} (hk : MKey P tk kc) (hs : ∀ k, Instr.sameBits 10000 (kc k) (kc k) = true) (ht : P.underlying tm = some (.map tk te)) {w : World} {m : Nat} {L : List (MEnt K)} {c : Nat} (k : K) (v : Value) (h : MMap kc w m L c) :
    (Instr.mapUpdate tm (.map (some m)) (kc k) v).run P w = .ok () (mSet kc w m (mPut L k v c) (mCnt L k c)) := by
  cases hn : mIdx L k with
  | none =>
    have e1 : mPut L k v c = L ++ [⟨k, v, c⟩] := by simp [mPut, hn]
    have e2 : mCnt L k c = c + 1 := by simp [mCnt, hn]
    rw [e1, e2]
    exact run_updateM_new hk ht k v h hn
  | some j =>
    obtain ⟨hj, hkey⟩ := mIdx_some hn
    have e1 : mPut L k v c = L.modify j fun e => { e with val := v } := by simp [mPut, hn]
    have e2 : mCnt L k c = c := by simp [mCnt, hn]
    rw [e1, e2]
    simp only [Instr.mapUpdate, Sem.run_bind, run_underlying ht, Result.andThen_ok]
    have hg : (getObj m).run P w = .ok (.map (L.map (MEnt.ent kc)).toArray c) w := by simp [getObj, Sem.run, show w.heap[m]? = _ from h]
    have hset : ∀ o, (setObj m o).run P w = .ok () { w with heap := w.heap.setIfInBounds m o } := fun o => by simp [setObj, Sem.run, show w.heap[m]? = _ from h]
    simp only [hg, Sem.run_bind, Result.andThen_ok, hk.chk, run_findKeyM hk, hn]
    have hke : Instr.keyThatStays (kc L[j].key) (kc k) = (pure (kc k) : Sem Value) := by
      unfold Instr.keyThatStays
      rw [hkey, if_pos (hs k)]
    have hl : ((L.map (MEnt.ent kc)).modify j fun e => { key := kc k, val := v, born := e.born }) = (L.modify j fun e => { e with val := v }).map (MEnt.ent kc) := by
      apply List.ext_getElem?
      intro i
      simp only [List.getElem?_modify, List.getElem?_map]
      by_cases hi : j = i
      · subst hi
        simp [hj, MEnt.ent, hkey]
      · simp [hi]
    simp [hj, MEnt.ent, hke, hset, mSet]
    congr 2
    simpa [MEnt.ent] using hl
theorem mGet_cons {K : Type} [DecidableEq K] (e : MEnt K) (L : List (MEnt K)) (k : K) : mGet (e :: L) k = if k = e.key then some e.val else mGet L k := by
  unfold mGet
  rw [List.find?_cons]
  by_cases h : k = e.key <;> simp [h]
theorem mGet_append {K : Type} [DecidableEq K] (L M : List (MEnt K)) (k : K) : mGet (L ++ M) k = (mGet L k).or (mGet M k) := by
  induction L with
  | nil => simp [mGet]
  | cons e L ih =>
    rw [List.cons_append, mGet_cons, mGet_cons, ih]
    split <;> simp
theorem mIdx_cons {K : Type} [DecidableEq K] (e : MEnt K) (L : List (MEnt K)) (k : K) : mIdx (e :: L) k = if k = e.key then some 0 else (mIdx L k).map (· + 1) := by
  unfold mIdx
  rw [List.findIdx?_cons]
  by_cases h : k = e.key <;> simp [h]
theorem mGet_put {K : Type} [DecidableEq K] (L : List (MEnt K)) (k : K) (v : Value) (c : Nat) (k' : K) : mGet (mPut L k v c) k' = if k' = k then some v else mGet L k' := by
  cases hn : mIdx L k with
  | none =>
    have e1 : mPut L k v c = L ++ [⟨k, v, c⟩] := by simp [mPut, hn]
    have hg := mIdx_none.1 hn
    rw [e1, mGet_append, mGet_cons]
    by_cases h : k' = k
    · subst h; simp [hg]
    · simp [h, mGet]
  | some j =>
    have e1 : mPut L k v c = L.modify j fun e => { e with val := v } := by simp [mPut, hn]
    rw [e1]
    clear e1
    induction L generalizing j with
    | nil => simp [mIdx] at hn
    | cons e L ih =>
      rw [mIdx_cons] at hn
      by_cases h : k = e.key
      · rw [if_pos h] at hn
        cases hn
        rw [List.modify_cons, if_pos rfl, mGet_cons, mGet_cons]
        simp only [← h]
        by_cases h2 : k' = k <;> simp [h2]
      · rw [if_neg h] at hn
        obtain ⟨i, hi, rfl⟩ := Option.map_eq_some_iff.1 hn
        rw [List.modify_cons, if_neg (by omega), mGet_cons, mGet_cons, Nat.add_sub_cancel, ih i hi]
        by_cases h2 : k' = e.key
        · have : ¬ k' = k := fun e3 => h (e3.symm.trans h2)
          simp [h2, show ¬ e.key = k from fun e3 => h e3.symm]
        · simp [h2]
/-- Of the blocks that there were only those of F may have turned. -/
structure Only (F : Nat → Prop) (w w' : World) : Prop where
  os : w'.os = w.os
  tape : w'.tape = w.tape
  output : w'.output = w.output
  size : w.heap.size ≤ w'.heap.size
  block : ∀ k, k < w.heap.size → ¬ F k → w'.heap[k]? = w.heap[k]?
theorem Only.refl (F : Nat → Prop) (w : World) : Only F w w := ⟨rfl, rfl, rfl, Nat.le_refl _, fun _ _ _ => rfl⟩
theorem Only.trans {F G : Nat → Prop} {a b c : World} (h : Only F a b) (k : Only G b c) (hG : ∀ k, k < a.heap.size → G k → F k) : Only F a c :=
  ⟨k.os.trans h.os, k.tape.trans h.tape, k.output.trans h.output, Nat.le_trans h.size k.size, fun i hi hF => (k.block i (Nat.lt_of_lt_of_le hi h.size) (fun h => hF (hG i hi h))).trans (h.block i hi hF)⟩
theorem Only.of {F : Nat → Prop} {w w' : World} (h : Below w.heap.size w w') : Only F w w' := ⟨h.os, h.tape, h.output, h.size, fun k hk _ => h.block k hk⟩
theorem Only.grown {F : Nat → Prop} {w w' : World} {row : Option Nat} (h : w.grownBy w' row) (hr : ∀ k, row = some k → F k) : Only F w w' :=
  ⟨h.os, h.tape, h.output, h.size, fun k hk hF => h.block k hk fun e => hF (hr k e.symm)⟩
theorem Only.below {F : Nat → Prop} {B : Nat} {w w' : World} (h : Only F w w') (hB : B ≤ w.heap.size) (hF : ∀ k, F k → B ≤ k) : Below B w w' :=
  ⟨h.os, h.tape, h.output, h.size, fun k hk => h.block k (by omega) fun e => by have := hF k e; omega⟩
theorem Only.mono {F G : Nat → Prop} {w w' : World} (h : Only F w w') (hG : ∀ k, k < w.heap.size → F k → G k) : Only G w w' := ⟨h.os, h.tape, h.output, h.size, fun k hk hg => h.block k hk fun e => hg (hG k hk e)⟩
theorem Box.only {F : Nat → Prop} {w w' : World} {b : Nat} {cs : List Value} (h : Box w b cs) (ho : Only F w w') (hb : ¬ F b) : Box w' b cs :=
  ⟨Nat.lt_of_lt_of_le h.lt ho.size, fun j u hu => (World.cell?_of_block (by exact ho.block b h.lt hb)).trans (h.cell j u hu), fun j => (World.frozen?_of_block (by exact ho.block b h.lt hb)).trans (h.free j)⟩
theorem MMap.only {K : Type} {kc : K → Value} {F : Nat → Prop} {w w' : World} {m : Nat} {L : List (MEnt K)} {c : Nat} (h : MMap kc w m L c) (ho : Only F w w') (hb : ¬ F m) : MMap kc w' m L c := (ho.block m h.lt hb).trans h
theorem Owns.only {α : Type} {F : Nat → Prop} {base : Nat} {E : TypeId} {n : Nat} {C : α → List Value} {w w' : World} {v : Value} {l : List α} (h : Owns base E n C w v l) (ho : Only F w w') (hb : ∀ k, v.ownBlock = some k → ¬ F k) : Owns base E n C w' v l := by
  have hlt := h.lt
  obtain ⟨h1, h2⟩ := h
  refine ⟨h1, ?_⟩
  rcases h2 with h2 | ⟨g, cap, cur, rfl, hg, hc, h3⟩
  · exact .inl h2
  · exact .inr ⟨g, cap, cur, rfl, hg, (ho.block g (hlt g rfl).2 (hb g rfl)).trans hc, h3⟩

end Go.Proofs.YtecffghcpknmjaaDoor

/- Walks: which Gavs, Keys and pins may be, the program's and the document's; the conditions stand in the theorems. -/

namespace Go.Proofs.YtecffghcpknmjaaDoor
open Go Go.RowKit

theorem refIsId_b (s : S) (w : World) (hs : s.size ≤ 9223372036854775807) : Calls Tryd.prog 38 #[.string s] w fun e w' => e = .returned (.bool (isIdB s)) ∧ Below w.heap.size w w' :=
  (refIsId_any s w hs).mono fun _ _ ⟨h1, h2⟩ => ⟨h1, h2 ▸ Below.refl _ _⟩
theorem refVer_b (s : S) (w : World) (hs : s.size ≤ 9223372036854775807) : Calls Tryd.prog 39 #[.string s] w fun e w' => e = .returned (.bool (verMay s)) ∧ Below w.heap.size w w' :=
  (refVer_any s w hs).mono fun _ _ ⟨h1, h2⟩ => ⟨h1, h2 ▸ Below.refl _ _⟩
def gavSm (g : Gav) : Prop := g.group.size ≤ 9223372036854775807 ∧ g.artifact.size ≤ 9223372036854775807 ∧ g.version.size ≤ 9223372036854775807
set_option maxHeartbeats 2000000 in
theorem mayGav_any (g : Gav) (w : World) (h : gavSm g) :
    Calls Tryd.prog 53 #[.agg #[.string g.group, .string g.artifact, .string g.version]] w fun e w' => e = .returned (.bool (gavMay g)) ∧ Below w.heap.size w w' := by
  have HH := Lib.hid h
  clear h
  go_enter Tryd.func53, Tryd.ntmps53
  go_wp2_with fail
  refine Calls.world ?_
  intro W hW
  have x0 : Box W w.heap.size [.string g.group, .string g.artifact, .string g.version] := by rw [hW]; exact Box.new w _ _ _ rfl
  have hB0 : Below w.heap.size w W := by rw [hW]; exact (Below.refl _ _).alloc (Nat.le_refl _) _
  have X := Lib.hid x0
  have HB := Lib.hid hB0
  clear hW x0 hB0
  refine (isId_any g.group _ HH.out.1).mono ?_
  rintro e w0 ⟨rfl, hb⟩
  have X' := Lib.hid (X.out.below hb X.out.lt)
  have HB' := Lib.hid (HB.out.trans (hb.mono HB.out.size))
  clear hb X HB
  have X := X'
  have HB := HB'
  clear X' HB'
  cases hq : isIdB g.group
  · have HQ0 := Lib.hid hq
    clear hq
    have c0 := X.out.cell 0 _ rfl
    have c1 := X.out.cell 1 _ rfl
    have c2 := X.out.cell 2 _ rfl
    have l0 := X.out.lt
    go_wp2
    go_ret
    exact ⟨ret_bool (by have z := True.intro; unfold gavMay; rw [HQ0.out] <;> (first | done | (simp; done) | (simp; omega) | omega)), HB.out⟩
  have HQ0 := Lib.hid hq
  clear hq
  have c0 := X.out.cell 0 _ rfl
  have c1 := X.out.cell 1 _ rfl
  have c2 := X.out.cell 2 _ rfl
  have l0 := X.out.lt
  go_wp2_with fail
  refine (isId_any g.artifact _ HH.out.2.1).mono ?_
  rintro e w1 ⟨rfl, hb⟩
  have X' := Lib.hid (X.out.below hb X.out.lt)
  have HB' := Lib.hid (HB.out.trans (hb.mono HB.out.size))
  clear hb X HB
  clear c0 c1 c2 l0
  have X := X'
  have HB := HB'
  clear X' HB'
  cases hq : isIdB g.artifact
  · have HQ1 := Lib.hid hq
    clear hq
    have c0 := X.out.cell 0 _ rfl
    have c1 := X.out.cell 1 _ rfl
    have c2 := X.out.cell 2 _ rfl
    have l0 := X.out.lt
    go_wp2
    go_ret
    exact ⟨ret_bool (by have z := True.intro; unfold gavMay; rw [HQ0.out, HQ1.out] <;> (first | done | (simp; done) | (simp; omega) | omega)), HB.out⟩
  have HQ1 := Lib.hid hq
  clear hq
  have c0 := X.out.cell 0 _ rfl
  have c1 := X.out.cell 1 _ rfl
  have c2 := X.out.cell 2 _ rfl
  have l0 := X.out.lt
  go_wp2_with fail
  refine (ver_any g.version _ HH.out.2.2).mono ?_
  rintro e w2 ⟨rfl, hb⟩
  have X' := Lib.hid (X.out.below hb X.out.lt)
  have HB' := Lib.hid (HB.out.trans (hb.mono HB.out.size))
  clear hb X HB
  clear c0 c1 c2 l0
  have X := X'
  have HB := HB'
  clear X' HB'
  cases hq : verMay g.version
  · have HQ2 := Lib.hid hq
    clear hq
    have c0 := X.out.cell 0 _ rfl
    have c1 := X.out.cell 1 _ rfl
    have c2 := X.out.cell 2 _ rfl
    have l0 := X.out.lt
    go_wp2
    go_ret
    exact ⟨ret_bool (by have z := True.intro; unfold gavMay; rw [HQ0.out, HQ1.out, HQ2.out] <;> (first | done | (simp; done) | (simp; omega) | omega)), HB.out⟩
  have HQ2 := Lib.hid hq
  clear hq
  have c0 := X.out.cell 0 _ rfl
  have c1 := X.out.cell 1 _ rfl
  have c2 := X.out.cell 2 _ rfl
  have l0 := X.out.lt
  go_wp2
  go_ret
  exact ⟨ret_bool (by have z := True.intro; unfold gavMay; rw [HQ0.out, HQ1.out, HQ2.out] <;> (first | done | (simp; done) | (simp; omega) | omega)), HB.out⟩
set_option maxHeartbeats 2000000 in
theorem refMayGav_any (g : Gav) (w : World) (h : gavSm g) :
    Calls Tryd.prog 56 #[.agg #[.string g.group, .string g.artifact, .string g.version]] w fun e w' => e = .returned (.bool (gavMay g)) ∧ Below w.heap.size w w' := by
  have HH := Lib.hid h
  clear h
  go_enter Tryd.func56, Tryd.ntmps56
  go_wp2_with fail
  refine Calls.world ?_
  intro W hW
  have x0 : Box W w.heap.size [.string g.group, .string g.artifact, .string g.version] := by rw [hW]; exact Box.new w _ _ _ rfl
  have hB0 : Below w.heap.size w W := by rw [hW]; exact (Below.refl _ _).alloc (Nat.le_refl _) _
  have X := Lib.hid x0
  have HB := Lib.hid hB0
  clear hW x0 hB0
  refine (refIsId_b g.group _ HH.out.1).mono ?_
  rintro e w0 ⟨rfl, hb⟩
  have X' := Lib.hid (X.out.below hb X.out.lt)
  have HB' := Lib.hid (HB.out.trans (hb.mono HB.out.size))
  clear hb X HB
  have X := X'
  have HB := HB'
  clear X' HB'
  cases hq : isIdB g.group
  · have HQ0 := Lib.hid hq
    clear hq
    have c0 := X.out.cell 0 _ rfl
    have c1 := X.out.cell 1 _ rfl
    have c2 := X.out.cell 2 _ rfl
    have l0 := X.out.lt
    go_wp2
    go_ret
    exact ⟨ret_bool (by have z := True.intro; unfold gavMay; rw [HQ0.out] <;> (first | done | (simp; done) | (simp; omega) | omega)), HB.out⟩
  have HQ0 := Lib.hid hq
  clear hq
  have c0 := X.out.cell 0 _ rfl
  have c1 := X.out.cell 1 _ rfl
  have c2 := X.out.cell 2 _ rfl
  have l0 := X.out.lt
  go_wp2_with fail
  refine (refIsId_b g.artifact _ HH.out.2.1).mono ?_
  rintro e w1 ⟨rfl, hb⟩
  have X' := Lib.hid (X.out.below hb X.out.lt)
  have HB' := Lib.hid (HB.out.trans (hb.mono HB.out.size))
  clear hb X HB
  clear c0 c1 c2 l0
  have X := X'
  have HB := HB'
  clear X' HB'
  cases hq : isIdB g.artifact
  · have HQ1 := Lib.hid hq
    clear hq
    have c0 := X.out.cell 0 _ rfl
    have c1 := X.out.cell 1 _ rfl
    have c2 := X.out.cell 2 _ rfl
    have l0 := X.out.lt
    go_wp2
    go_ret
    exact ⟨ret_bool (by have z := True.intro; unfold gavMay; rw [HQ0.out, HQ1.out] <;> (first | done | (simp; done) | (simp; omega) | omega)), HB.out⟩
  have HQ1 := Lib.hid hq
  clear hq
  have c0 := X.out.cell 0 _ rfl
  have c1 := X.out.cell 1 _ rfl
  have c2 := X.out.cell 2 _ rfl
  have l0 := X.out.lt
  go_wp2_with fail
  refine (refVer_b g.version _ HH.out.2.2).mono ?_
  rintro e w2 ⟨rfl, hb⟩
  have X' := Lib.hid (X.out.below hb X.out.lt)
  have HB' := Lib.hid (HB.out.trans (hb.mono HB.out.size))
  clear hb X HB
  clear c0 c1 c2 l0
  have X := X'
  have HB := HB'
  clear X' HB'
  cases hq : verMay g.version
  · have HQ2 := Lib.hid hq
    clear hq
    have c0 := X.out.cell 0 _ rfl
    have c1 := X.out.cell 1 _ rfl
    have c2 := X.out.cell 2 _ rfl
    have l0 := X.out.lt
    go_wp2
    go_ret
    exact ⟨ret_bool (by have z := True.intro; unfold gavMay; rw [HQ0.out, HQ1.out, HQ2.out] <;> (first | done | (simp; done) | (simp; omega) | omega)), HB.out⟩
  have HQ2 := Lib.hid hq
  clear hq
  have c0 := X.out.cell 0 _ rfl
  have c1 := X.out.cell 1 _ rfl
  have c2 := X.out.cell 2 _ rfl
  have l0 := X.out.lt
  go_wp2
  go_ret
  exact ⟨ret_bool (by have z := True.intro; unfold gavMay; rw [HQ0.out, HQ1.out, HQ2.out] <;> (first | done | (simp; done) | (simp; omega) | omega)), HB.out⟩

end Go.Proofs.YtecffghcpknmjaaDoor

/- Walks: the document's cutting of texts: Lines, Pieces, words; the conditions stand in the theorems. -/
namespace Go.Proofs.YtecffghcpknmjaaDoor
open Go Go.RowKit

theorem info_str : (Tryd.prog.info? 9).map (fun i => (i.zero, i.size, i.bytes)) = some (some (.string ⟨#[]⟩), 1, 16) := by kernel_rfl
theorem strC_len (s : S) : (strC s).length = 1 := rfl

end Go.Proofs.YtecffghcpknmjaaDoor

/- The walk of pom's properties; the conditions stand in the theorem. -/

namespace Go.Proofs.YtecffghcpknmjaaDoor
open Go Go.RowKit

theorem prpC_len2 (x : Prp) : (prpC x).length = 2 := rfl

end Go.Proofs.YtecffghcpknmjaaDoor

/- The walk of a dependency in pom's reader; the conditions stand in the theorem. -/
namespace Go.Proofs.YtecffghcpknmjaaDoor
open Go Go.RowKit

theorem Box.apart {w : World} {b c : Nat} {cs : List Value} (h : Box w b cs) (hne : b ≠ c) (j : Nat) (v : Value) : Box (w.setCell ⟨c, j, none⟩ v) b cs := h.grown (setCell_grown w c j v) (by simpa using hne)
theorem idC_len2 (x : Id) : (idC x).length = 2 := rfl

end Go.Proofs.YtecffghcpknmjaaDoor

/- The walk of the dependencies of an element in pom's reader; the conditions stand in the theorem. -/

namespace Go.Proofs.YtecffghcpknmjaaDoor
open Go Go.RowKit

theorem depC_len8 (x : Dep × Value) : (depC x).length = 8 := rfl
/-- A row of dependencies of the call's own, with their exclusions. -/
structure DepsOwn (base : Nat) (w : World) (v : Value) (ds : List Dep) (L : List (Dep × Value)) : Prop where
  row : Owns base 192 8 depC w v L
  are : L.map (·.1) = ds
  excl : ∀ p ∈ L, Owns base 24 2 idC w p.2 p.1.excl
theorem DepsOwn.below {base : Nat} {w w' : World} {v : Value} {ds : List Dep} {L : List (Dep × Value)} (h : DepsOwn base w v ds L) (hb : Below w.heap.size w w') : DepsOwn base w' v ds L :=
  ⟨h.row.below hb, h.are, fun p hp => (h.excl p hp).below hb⟩
theorem DepsOwn.base_mono {base B : Nat} {w : World} {v : Value} {ds : List Dep} {L : List (Dep × Value)} (h : DepsOwn base w v ds L) (hb : B ≤ base) : DepsOwn B w v ds L :=
  ⟨h.row.base_mono hb, h.are, fun p hp => (h.excl p hp).base_mono hb⟩
theorem DepsOwn.nil (base : Nat) (w : World) : DepsOwn base w (.slice none 0 0) [] [] := ⟨Owns.nil, rfl, by simp⟩
theorem DepsOwn.of {base : Nat} {w : World} {v : Value} {ds : List Dep} {L : List (Dep × Value)} (h : DepsOwn base w v ds L) : DepsOf w v ds :=
  ⟨L, h.are, h.row.slice depC_len8, fun p hp => (h.excl p hp).slice idC_len2⟩
/-- Beside a block that is none of the rows. -/
theorem DepsOwn.keptR {base : Nat} {w w' : World} {v : Value} {ds : List Dep} {L : List (Dep × Value)} {r : Nat} (h : DepsOwn base w v ds L) (hg : w.grownBy w' (some r)) (hr : r < base) : DepsOwn base w' v ds L :=
  ⟨h.row.keptR hg hr, h.are, fun p hp => (h.excl p hp).keptR hg hr⟩

end Go.Proofs.YtecffghcpknmjaaDoor

/- pom.Read where a part is wrong: what its deferred closure makes of it; the parent's three words; the conditions stand in the theorems. -/

namespace Go.Proofs.YtecffghcpknmjaaDoor
open Go Go.RowKit

/-- A project of the call's own. -/
structure PomOwn (base : Nat) (w : World) (p : Pom) (pv mv dv : Value) : Prop where
  props : Owns base 189 2 prpC w pv p.props
  managed : ∃ L, DepsOwn base w mv p.managed L
  deps : ∃ L, DepsOwn base w dv p.deps L
theorem PomOwn.below {base : Nat} {w w' : World} {p : Pom} {pv mv dv : Value} (h : PomOwn base w p pv mv dv) (hb : Below w.heap.size w w') : PomOwn base w' p pv mv dv :=
  ⟨h.props.below hb, let ⟨L, h1⟩ := h.managed; ⟨L, h1.below hb⟩, let ⟨L, h1⟩ := h.deps; ⟨L, h1.below hb⟩⟩
theorem PomOwn.keptR {base r : Nat} {w w' : World} {p : Pom} {pv mv dv : Value} (h : PomOwn base w p pv mv dv) (hg : w.grownBy w' (some r)) (hr : r < base) : PomOwn base w' p pv mv dv :=
  ⟨h.props.keptR hg hr, let ⟨L, h1⟩ := h.managed; ⟨L, h1.keptR hg hr⟩, let ⟨L, h1⟩ := h.deps; ⟨L, h1.keptR hg hr⟩⟩
theorem PomOwn.base_mono {base B : Nat} {w : World} {p : Pom} {pv mv dv : Value} (h : PomOwn base w p pv mv dv) (hb : B ≤ base) : PomOwn B w p pv mv dv :=
  ⟨h.props.base_mono hb, let ⟨L, h1⟩ := h.managed; ⟨L, h1.base_mono hb⟩, let ⟨L, h1⟩ := h.deps; ⟨L, h1.base_mono hb⟩⟩
theorem PomOwn.of {base : Nat} {w : World} {p : Pom} {pv mv dv : Value} (h : PomOwn base w p pv mv dv) : PomOf w (.agg (pomC p pv mv dv).toArray) p pv mv dv :=
  ⟨rfl, h.props.slice prpC_len2, let ⟨_, h1⟩ := h.managed; h1.of, let ⟨_, h1⟩ := h.deps; h1.of⟩

end Go.Proofs.YtecffghcpknmjaaDoor
