/- The walk of the document's Put; its conditions stand in the theorems. -/
import Derived.Test.YtnhophaeimpkkaaT8
import Derived.WalkKit
import Derived.WalkSpells
import Derived.WalkLawsBesides
namespace Go.Proofs.Ytnhophaeimpkkaa
open Go Go.RowKit

theorem own_prp_store {base : Nat} {w : World} {ao : Option Addr} {cap : Nat} {l : List Prp} {k : Nat} {x : Prp} (h : Owns base 36 2 prpC w (.slice ao l.length cap) l) (hk : l[k]? = some x) :
    ∃ g, ao = some ⟨g, 0, none⟩ ∧ base ≤ g ∧ g < w.heap.size ∧ w.cell? ⟨g, k * 2 + 1, none⟩ = some (.string x.value) ∧ w.frozen? ⟨g, k * 2 + 1, none⟩ = false ∧
      ∀ u, Owns base 36 2 prpC (w.setCell ⟨g, k * 2 + 1, none⟩ (.string u)) (.slice ao (l.set k ⟨x.name, u⟩).length cap) (l.set k ⟨x.name, u⟩) := by
  have hlt : k < l.length := (List.getElem?_eq_some_iff.1 hk).1
  have hsh := h.2
  rcases hsh with ⟨he, h0⟩ | ⟨g, cap', cur, he, hb, hg, hnc, hm, hcs, ht⟩
  · omega
  · cases he
    have hc := World.ownsRow.cellAt h (k * 2 + 1) (by omega)
    rw [flat_get prpC_len l k 1 x hk (by omega)] at hc
    refine ⟨g, rfl, hb, (Array.getElem?_eq_some_iff.1 hg).1, hc, World.ownsRow.frozenAt h _, fun u => ?_⟩
    have hs := (World.ownsRow.stored h (k * 2 + 1) (.string u)).1
    unfold Owns
    rw [List.length_set]
    have e : (l.set k ⟨x.name, u⟩).flatMap prpC = (l.flatMap prpC).set (k * 2 + 1) (.string u) := by
      apply List.ext_getElem?
      intro j
      by_cases hj : j < l.length * 2
      · have hjl : j / 2 < l.length := by omega
        have ej : j = j / 2 * 2 + j % 2 := by omega
        rw [ej, List.getElem?_set]
        by_cases hjk : j / 2 = k
        · rw [flat_get prpC_len (l.set k ⟨x.name, u⟩) (j / 2) (j % 2) ⟨x.name, u⟩ (by rw [hjk]; simp [hlt]) (by omega), flat_get prpC_len l (j / 2) (j % 2) x (by rw [hjk, hk]) (by omega), flat_len prpC_len]
          have h2 : j % 2 = 0 ∨ j % 2 = 1 := by omega
          rcases h2 with h2 | h2
          · rw [if_neg (by omega), h2]; rfl
          · rw [if_pos (by omega), if_pos (by omega), h2]; rfl
        · rw [flat_get prpC_len (l.set k ⟨x.name, u⟩) (j / 2) (j % 2) l[j / 2] (by rw [List.getElem?_set_ne (by omega)]; simp [hjl]) (by omega), flat_get prpC_len l (j / 2) (j % 2) l[j / 2] (by simp [hjl]) (by omega), if_neg (by omega)]
      · rw [List.getElem?_eq_none (by rw [flat_len prpC_len, List.length_set]; omega), List.getElem?_eq_none (by rw [List.length_set, flat_len prpC_len]; omega)]
    rw [e]
    exact hs

set_option maxHeartbeats 400000 in
theorem refPut_any (l : List Prp) (p : Prp) (v : Value) (w : World) (hs : SliceOf 2 prpC w v l) (hl : Hid ((l.length + 1) * 32 ≤ 140737488355328)) :
    Calls Try.prog 30 #[v, .agg (prpC p).toArray] w (RetOwn 36 2 prpC (put l p) w) := by
  obtain ⟨ao, cap, rfl⟩ := hs.shape
  obtain ⟨pn, pv⟩ := p
  simp only [prpC]
  have hb0 := (Below.refl w.heap.size w).alloc (Nat.le_refl _) (.cells #[.string pn, .string pv] 36)
  have hx0 : Box _ _ _ := Box.new w [.string pn, .string pv] 36 w.heap.size rfl
  have e0 : (w.alloc (.cells #[.string pn, .string pv] 36)).heap.size = w.heap.size + 1 := by simp
  have hl2 : l.length ≤ 140737488355328 := by have := hl.out; omega
  have Hl2 := Lib.hid hl2
  clear hl2
  rcases at_ge 0 l pn with hat | ⟨k, -, hk, hat⟩
  · have Hat := Lib.hid hat
    clear hat
    go_enter Try.func30, Try.ntmps30
    go_wp2_with (at_builtin; refine wpList_append_slice _ rfl _ _ 24 rfl w.heap.size 36 Try.underlying24 info_prp rfl (by decide) prpC_len (.slice (some ⟨w.heap.size + 1, 0, none⟩) 0 0) [] rfl (Owns.empty (by simp) (by omega)) _ l rfl (hs.below ((hb0.alloc (by simp) _).mono (by simp))) (fun y _ => prpC_one y) (by have := hl.out; simp; omega) (by decide) (by simp; omega) ?_; intro v1 w1 hown hgrow hloc; have hx1 := (hx0.alloc _).grown hgrow (by simp [Value.ownBlock]); have hb1 := (hb0.alloc (by simp) _).grown hgrow (by simp; omega) (by simp [Value.ownBlock]); have c0 := hx1.cell 0 _ rfl; have c1 := hx1.cell 1 _ rfl)
    refine (refAt_any l pn _ _ (hs.below hb1) Hl2.out).mono ?_
    rintro e w2 ⟨rfl, hb2⟩
    rw [Hat.out]
    have hx2 := hx1.below hb2 hx1.lt
    have d0 := hx2.cell 0 _ rfl
    have d1 := hx2.cell 1 _ rfl
    have hown2 := hown.below hb2
    have hb3 := hb1.trans (hb2.mono hb1.size)
    have hsz := hb3.size
    clear hx1 c0 c1 hb1 hb2 hown hgrow hloc e0
    go_wp2_with (at_builtin; refine wpList_append_slice _ rfl _ _ 24 rfl w.heap.size 36 Try.underlying24 info_prp rfl (by decide) prpC_len v1 l rfl (hown2.alloc _) _ [⟨pn, pv⟩] rfl (sliceLit prpC_len w2 [⟨pn, pv⟩] _ _ 1 rfl rfl (by simp [maxLen])) (fun y _ => prpC_one y) (by have := hl.out; simp; omega) (by decide) (by simp; omega) ?_; intro v3 w3 hown3 hgrow3 hloc3)
    go_wp2
    go_ret
    refine ⟨v3, rfl, ?_, (hb3.alloc (by omega) _).grown hgrow3 (by simp; omega) (fun k hk => (hown2.lt k hk).1)⟩
    rw [put_none 0 l ⟨pn, pv⟩ Hat.out]
    exact hown3
  · have Hat := Lib.hid hat
    clear hat
    go_enter Try.func30, Try.ntmps30
    go_wp2_with (at_builtin; refine wpList_append_slice _ rfl _ _ 24 rfl w.heap.size 36 Try.underlying24 info_prp rfl (by decide) prpC_len (.slice (some ⟨w.heap.size + 1, 0, none⟩) 0 0) [] rfl (Owns.empty (by simp) (by omega)) _ l rfl (hs.below ((hb0.alloc (by simp) _).mono (by simp))) (fun y _ => prpC_one y) (by have := hl.out; simp; omega) (by decide) (by simp; omega) ?_; intro v1 w1 hown hgrow hloc; have hx1 := (hx0.alloc _).grown hgrow (by simp [Value.ownBlock]); have hb1 := (hb0.alloc (by simp) _).grown hgrow (by simp; omega) (by simp [Value.ownBlock]); have c0 := hx1.cell 0 _ rfl; have c1 := hx1.cell 1 _ rfl)
    refine (refAt_any l pn _ _ (hs.below hb1) Hl2.out).mono ?_
    rintro e w2 ⟨rfl, hb2⟩
    rw [Hat.out]
    obtain ⟨-, x, hx, hput⟩ := put_some 0 l ⟨pn, pv⟩ k Hat.out
    simp only [Nat.sub_zero] at hx hput
    have hx2 := hx1.below hb2 hx1.lt
    have d0 := hx2.cell 0 _ rfl
    have d1 := hx2.cell 1 _ rfl
    have hown2 := hown.below hb2
    have hb3 := hb1.trans (hb2.mono hb1.size)
    have hsz := hb3.size
    obtain ⟨ao1, cap1, rfl⟩ := hown.shape
    simp only [List.nil_append] at hown2 ⊢
    obtain ⟨g, rfl, hg, hgl, q0, q1, hst⟩ := own_prp_store hown2 hx
    have Hput := Lib.hid hput
    clear hx1 c0 c1 hb1 hb2 hown hgrow hloc e0 hput hx
    have hkl : k < l.length := by omega
    go_wp2
    go_ret
    refine ⟨_, rfl, ?_, hb3.setCell hg _⟩
    rw [Hput.out]
    have h := hst pv
    rw [List.length_set] at h
    exact h

end Go.Proofs.Ytnhophaeimpkkaa
