/- The walk of the document's text of an element of a Meta; the conditions stand in the theorem. -/
import Derived.Test.YtecffghcpknmjaaDoorJR09
import Derived.Test.YtecffghcpknmjaaDoorJR08
namespace Go.Proofs.YtecffghcpknmjaaDoor
open Go Go.RowKit

set_option maxRecDepth 100000 in
set_option maxHeartbeats 8000000 in
theorem refText23_any (t : Tr) (w : World) (av kv : Value) (ht : NodeOf w t av kv) (hx : (textF t.kids).length ≤ 1000000000) :
    Calls Tryd.prog 52 #[nodeV t av kv] w fun e w' => e = .returned (.string (bs (trimB (textF t.kids)))) ∧ Below w.heap.size w w' := by
  obtain ⟨ao, ac, ko, kc, rfl, rfl, -, hkl⟩ := ht.shape
  have HT := Lib.hid ht
  have HX := Lib.hid hx
  clear ht hx
  unfold nodeV
  go_enter Tryd.func52, Tryd.ntmps52
  go_wp2
  go_loopw [3, 9] (fun a i wr => ∃ (k : Nat) (s : S), k ≤ t.kids.length ∧ i = .int .i64 k ∧ a = .string s ∧ Hid (Below w.heap.size w wr ∧ s = bs (textF (t.kids.take k)))) (fun _ i _ => t.kids.length - (intOf i).toNat)
  case atStart => exact ⟨0, ⟨#[]⟩, Nat.zero_le _, rfl, rfl, (Below.refl _ w).alloc (Nat.le_refl _) _, by simp [textF]; rfl⟩
  case round =>
    obtain ⟨k, s, hk, rfl, rfl, HR⟩ := hrel
    by_cases hlt : k < t.kids.length
    · obtain ⟨g, o, a1, a2, a3, a4, rfl, hg, -, c0, c1, c2, c3, -⟩ := (HT.out.later HR.out.1).at k hlt
      have hki : (k : Int) < (t.kids.length : Int) := by omega
      have HD := Lib.hid (textF_take hlt)
      have HB := Lib.hid (fun o => HR.out.1.alloc HR.out.1.size o)
      by_cases hne : t.kids[k].name = []
      · have he : (bs t.kids[k].name : S).toList.isEmpty = true := by rw [empty_data, bs_size, hne]; rfl
        have hkE : t.kids[k].name.isEmpty = true := by rw [hne]; rfl
        rw [hkE] at HD
        obtain ⟨X, hX⟩ : ∃ X : S, X = bs t.kids[k].text := ⟨_, rfl⟩
        rw [← hX] at c3
        have HS : Hid (s ++ X = bs (textF (t.kids.take (k + 1)))) := by show _ = _; rw [HR.out.2, hX, bs_append, HD.out]; rfl
        have hsz : ¬ 9223372036854775807 < s.size + X.size := by
          have h1 := textF_take_le t.kids (k + 1)
          have h2 := HX.out
          have h3 : (s ++ X).size = (textF (t.kids.take (k + 1))).length := by rw [HS.out, bs_size]
          have h4 : (s ++ X).size = s.size + X.size := by simp
          omega
        clear hne hX hkE HD
        go_wp2
        go_roundw
        case rel => exact ⟨k + 1, s ++ X, hlt, by go_num, rfl, HB.out _, HS.out⟩
        case measure => simp [intOf]; omega
      · have he : (bs t.kids[k].name : S).toList.isEmpty = false := by rw [empty_data, bs_size]; simpa using hne
        have hkE : t.kids[k].name.isEmpty = false := by simpa using hne
        rw [hkE] at HD
        have HS : Hid (s = bs (textF (t.kids.take (k + 1)))) := by show _ = _; rw [HD.out, HR.out.2]; simp
        clear hne hkE HD
        go_wp2
        go_roundw
        case rel => exact ⟨k + 1, s, hlt, by go_num, rfl, HB.out _, HS.out⟩
        case measure => simp [intOf]; omega
    · obtain rfl : k = t.kids.length := by omega
      have hs : s = bs (textF t.kids) := by have := HR.out.2; rwa [List.take_length] at this
      have HTR := Lib.hid (refTrim_any s wr (by rw [hs, bs_size]; exact HX.out))
      have HS : Hid (s.data.toList = textF t.kids) := by show _ = _; rw [hs]; rfl
      clear hs
      go_wp2_with fail
      refine HTR.out.mono ?_
      rintro e w4 ⟨x, rfl, hx, rfl⟩
      have HX : Hid (x = bs (trimB (textF t.kids))) := by show _ = _; rw [← HS.out, ← hx, data_bs]
      clear hx
      go_wp2
      go_ret
      exact ⟨by rw [← HX.out]; rfl, HR.out.1⟩

end Go.Proofs.YtecffghcpknmjaaDoor

/- The document's reader of projects: its state, fail, Kids, one; the conditions stand in the theorems. -/
namespace Go.Proofs.YtecffghcpknmjaaDoor
open Go Go.RowKit

set_option maxRecDepth 100000 in
set_option maxHeartbeats 8000000 in
theorem refKids_x {X : Nat → Prop} (t : Tr) (m : Bs) (w : World) (av kv : Value) (ht : NodeX X w t av kv) (hkl : t.kids.length ≤ 100000) :
    Calls Tryd.prog 51 #[nodeV t av kv, .string (bs m)] w fun e w' => ∃ v L, e = .returned v ∧ L.map (·.1) = kidsF m t.kids ∧ CollX X w.heap.size w w' v L := by
  obtain ⟨ao, ac, ko, kc, rfl, rfl, hal, -⟩ := ht.shape
  have HT := Lib.hid ht
  clear ht
  unfold nodeV
  go_enter Tryd.func51, Tryd.ntmps51
  go_wp2
  go_loopw [5, 11] (fun v i wr => ∃ (k : Nat) (L : List TrV) (v' : Value), k ≤ t.kids.length ∧ i = .int .i64 k ∧ v = v' ∧ Hid (w.heap.size < wr.heap.size ∧ CollX X w.heap.size w wr v' L ∧ L.map (·.1) = kidsF m (t.kids.take k))) (fun _ i _ => t.kids.length - (intOf i).toNat)
  case atStart => exact ⟨0, [], _, Nat.zero_le _, rfl, rfl, by simp, ⟨(Below.refl _ w).alloc (Nat.le_refl _) _, Owns.nil, by simp⟩, by simp [kidsF]⟩
  case round =>
    obtain ⟨k, L, v, hk, rfl, rfl, HR⟩ := hrel
    obtain ⟨la, lc, hlv⟩ := HR.out.2.1.own.shape
    subst hlv
    by_cases hlt : k < t.kids.length
    · obtain ⟨g, o, a1, a2, a3, a4, rfl, hg, -, c0, c1, c2, c3, hn1⟩ := (HT.out.later HR.out.2.1.below).at k hlt
      have hnX : NodeX (fun j => X j ∨ w.heap.size ≤ j) w t (.slice ao t.attrs.length ac) (.slice (some ⟨g, o, none⟩) t.kids.length kc) := HT.out.keep (KeptX.refl _ _) (fun k h1 h2 => h2.elim id (fun h => by omega))
      obtain ⟨g', o', b1, b2, b3, b4, e1, -, -, d0, d1, d2, d3, hn2⟩ := (hnX.keep (KeptX.below HR.out.2.1.below) (fun _ _ h => h)).at k hlt
      simp only [Option.some.injEq, Addr.mk.injEq, and_true] at e1
      obtain ⟨rfl, rfl⟩ := e1
      rw [c1] at d1
      rw [c2] at d2
      simp only [Option.some.injEq, Value.slice.injEq, true_and] at d1 d2
      obtain ⟨rfl, rfl⟩ := d1
      obtain ⟨rfl, rfl⟩ := d2
      have hki : (k : Int) < (t.kids.length : Int) := by omega
      have HD := Lib.hid (kidsF_take (m := m) hlt)
      have HC := Lib.hid (fun o => HR.out.2.1.alloc (Nat.le_of_lt HR.out.1) o)
      have HZ := Lib.hid (fun o => (show w.heap.size < (wr.alloc o).heap.size by have := HR.out.1; simp; omega))
      have HN := Lib.hid hn2
      have hE := bs_beq2 t.kids[k].name m
      have hLl : L.length ≤ k := by
        have h1 := filter_len m t.kids k
        rw [← HR.out.2.2] at h1
        simpa using h1
      clear d0 d3 hn1 hn2 hnX
      by_cases hne : t.kids[k].name = []
      · have he : (bs t.kids[k].name : S).toList.isEmpty = true := by rw [empty_data, bs_size, hne]; rfl
        have he2 : (!(bs t.kids[k].name : S).toList.isEmpty) = false := by rw [he]; rfl
        have hik : isKid m t.kids[k] = false := by unfold isKid; rw [hne]; rfl
        rw [hik] at HD
        clear hne hE hik
        go_wp2
        go_roundw
        case rel => exact ⟨k + 1, L, _, hlt, by go_num, rfl, HZ.out _, HC.out _, by rw [HD.out, HR.out.2.2]; simp⟩
        case measure => simp [intOf]; omega
      · have he : (bs t.kids[k].name : S).toList.isEmpty = false := by rw [empty_data, bs_size]; simpa using hne
        have he2 : (!(bs t.kids[k].name : S).toList.isEmpty) = true := by rw [he]; rfl
        have hkE : t.kids[k].name.isEmpty = false := by simpa using hne
        have hmE : (bs m : S).toList.isEmpty = m.isEmpty := by rw [empty_data, bs_size]; cases m <;> simp
        have hik : isKid m t.kids[k] = (m.isEmpty || decide (t.kids[k].name = m)) := by unfold isKid; rw [hkE]; rfl
        clear hne
        have hcs : (isKid m t.kids[k] = false ∧ (bs m : S).toList.isEmpty = false ∧ ((bs t.kids[k].name : S).toList == (bs m : S).toList) = false) ∨ (isKid m t.kids[k] = true ∧ (bs m : S).toList.isEmpty = true) ∨ (isKid m t.kids[k] = true ∧ (bs m : S).toList.isEmpty = false ∧ ((bs t.kids[k].name : S).toList == (bs m : S).toList) = true) := by
          rw [hik, hmE, hE]
          cases m.isEmpty <;> cases decide (t.kids[k].name = m) <;> simp
        clear hik hmE hE hkE
        rcases hcs with ⟨hik, hm1, hE⟩ | hcs
        · rw [hik] at HD
          clear hik
          go_wp2
          go_roundw
          case rel => exact ⟨k + 1, L, _, hlt, by go_num, rfl, HZ.out _, HC.out _, by rw [HD.out, HR.out.2.2]; simp⟩
          case measure => simp [intOf]; omega
        · have hikt : isKid m t.kids[k] = true := by rcases hcs with ⟨h, -⟩ | ⟨h, -⟩ <;> exact h
          rw [hikt] at HD
          have HOO : Hid (∀ o o2, Owns w.heap.size 47 4 trC ((wr.alloc o).alloc o2) (.slice la L.length lc) L) := fun o o2 => ((HC.out o).own).alloc o2
          have HFI : Hid (∀ o o2 v8 w8, Owns w.heap.size 47 4 trC w8 v8 (L ++ [(t.kids[k], .slice a1 t.kids[k].attrs.length a2, .slice a3 t.kids[k].kids.length a4)]) → ((wr.alloc o).alloc o2).grownBy w8 (Value.slice la L.length lc).ownBlock → w.heap.size < w8.heap.size ∧ CollX X w.heap.size w w8 v8 (L ++ [(t.kids[k], .slice a1 t.kids[k].attrs.length a2, .slice a3 t.kids[k].kids.length a4)])) := fun o o2 v8 w8 h1 h2 =>
            ⟨by have := h2.size; have := HZ.out o; simp at *; omega, ((HC.out o).alloc (Nat.le_of_lt (HZ.out o)) o2).push ((HN.out.later ((Below.refl _ _).alloc (Nat.le_refl _) _)).later ((Below.refl _ _).alloc (Nat.le_refl _) _)) h1 h2 (by have := HZ.out o; simp at *; omega)⟩
          have HSZ2 : Hid (∀ o o2, w.heap.size ≤ ((wr.alloc o).alloc o2).heap.size) := fun o o2 => by have := HZ.out o; simp at *; omega
          have HBY : Hid (∀ y : TrV, (L.length + [y].length) * 80 ≤ 140737488355328) := fun y => by simp only [List.length_cons, List.length_nil]; omega
          have HLL := Lib.hid hLl
          have HIS := Lib.hid HR.out.2.2
          have hCS : ((bs m : S).toList.isEmpty = true) ∨ ((bs m : S).toList.isEmpty = false ∧ ((bs t.kids[k].name : S).toList == (bs m : S).toList) = true) := by
            rcases hcs with ⟨-, h⟩ | ⟨-, h⟩
            · exact .inl h
            · exact .inr h
          clear hcs hikt HR HT HN HC HZ hLl
          generalize hkk : t.kids[k] = y at *
          obtain ⟨yn, ya, yk, yx⟩ := y
          simp only [Tr.name, Tr.attrs, Tr.kids, Tr.text] at *
          rcases hCS with hm1 | ⟨hm1, hE⟩
          all_goals
            go_wp2_with (at_builtin; go_loud ((refine wpList_append_slice _ rfl _ _ 45 rfl w.heap.size 47 Tryd.underlying45 info_node rfl (by decide) trC_len (.slice la L.length lc) L rfl (HOO.out _ _) _ [((.mk yn ya yk yx, .slice a1 ya.length a2, .slice a3 yk.length a4) : TrV)] rfl (lit_one (.mk yn ya yk yx, .slice a1 ya.length a2, .slice a3 yk.length a4) _ _ (by simp)) (one_one _ _ _ _ _ _ _) (HBY.out _) (by decide) (HSZ2.out _ _) ?_; intro v8 w8 hown8 hgrow8 hloc8; have HP8 := Lib.hid (HFI.out _ _ _ _ hown8 hgrow8); clear hown8 hgrow8 hloc8)))
            go_wp2
            go_roundw
            case rel => exact ⟨k + 1, _, _, hlt, by go_num, rfl, HP8.out.1, HP8.out.2, by rw [HD.out, List.map_append, HIS.out]; rfl⟩
            case measure => simp [intOf]; omega
    · obtain rfl : k = t.kids.length := by omega
      have HF : Hid (L.map (·.1) = kidsF m t.kids) := by show _ = _; rw [HR.out.2.2, List.take_length]
      go_wp2
      go_ret
      exact ⟨_, L, rfl, HF.out, HR.out.2.1⟩

end Go.Proofs.YtecffghcpknmjaaDoor
