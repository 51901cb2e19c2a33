/- Walks: what edits are told as; the conditions stand in the theorems. -/
import Derived.Test.YtmcjpmogjmnfpaaL12
import Derived.Test.YtmcjpmogjmnfpaaLShelf
namespace Go.Proofs.Ytmcjpmogjmnfpaa
open Go Go.RowKit

def wordB (n : Int) : Bs :=
  if n = 1 then [99, 111, 109, 112, 105, 108, 101] else if n = 2 then [114, 117, 110, 116, 105, 109, 101] else if n = 3 then [112, 114, 111, 118, 105, 100, 101, 100] else if n = 4 then [115, 121, 115, 116, 101, 109]
  else if n = 5 then [116, 101, 115, 116] else if n = 6 then [105, 109, 112, 111, 114, 116] else []
def keyT (k : Key) : Bs := k.group.data.toList ++ 58 :: k.artifact.data.toList ++ 58 :: k.type.data.toList ++ (if k.classifier.data.toList = [] then [] else 58 :: k.classifier.data.toList)
def pinT (p : Pin) : Bs := Lib.join [p.version.data.toList, wordB p.scope] [32]
def tellE (e : Edit) : Bs :=
  if e.had = false then Lib.join [[43], keyT e.key, pinT e.new] [32]
  else if e.has = false then Lib.join [[45], keyT e.key, pinT e.old] [32]
  else Lib.join [[126], keyT e.key, pinT e.old, [116, 111], pinT e.new] [32]
theorem word_any (n : Int) (w : World) : Calls Try.prog 56 #[.int .i64 n] w fun e w' => e = .returned (.string (bs (wordB n))) ∧ w = w' := by
  go_enter Try.func56, Try.ntmps56
  by_cases h1 : n = 1
  · subst h1
    go_wp2
    go_ret
    exact ⟨rfl, rfl⟩
  by_cases h2 : n = 2
  · subst h2
    go_wp2
    go_ret
    exact ⟨rfl, rfl⟩
  by_cases h3 : n = 3
  · subst h3
    go_wp2
    go_ret
    exact ⟨rfl, rfl⟩
  by_cases h4 : n = 4
  · subst h4
    go_wp2
    go_ret
    exact ⟨rfl, rfl⟩
  by_cases h5 : n = 5
  · subst h5
    go_wp2
    go_ret
    exact ⟨rfl, rfl⟩
  by_cases h6 : n = 6
  · subst h6
    go_wp2
    go_ret
    exact ⟨rfl, rfl⟩
  have HW : Hid (wordB n = []) := by show _ = _; unfold wordB; rw [if_neg h1, if_neg h2, if_neg h3, if_neg h4, if_neg h5, if_neg h6]
  go_wp2
  go_ret
  exact ⟨by rw [HW.out]; rfl, rfl⟩

def keyS (k : Key) : Prop := k.group.size ≤ 1000 ∧ k.artifact.size ≤ 1000 ∧ k.type.size ≤ 1000 ∧ k.classifier.size ≤ 1000
set_option maxRecDepth 100000 in
theorem printKey_any (k : Key) (w : World) (h : keyS k) : Calls Try.prog 41 #[.agg #[.string k.group, .string k.artifact, .string k.type, .string k.classifier]] w fun e w' => e = .returned (.string (bs (keyT k))) ∧ Below w.heap.size w w' := by
  obtain ⟨h1, h2, h3, h4⟩ := h
  have HB : Hid (∀ o, Below w.heap.size w (w.alloc o)) := fun o => (Below.refl _ w).alloc (Nat.le_refl _) _
  go_enter Try.func41, Try.ntmps41
  by_cases hc : k.classifier.data.toList = []
  · have he : (k.classifier.toList == []) = true := by rw [str_lit]; simpa using hc
    have HK : Hid (bs (keyT k) = k.group ++ bs [58] ++ k.artifact ++ bs [58] ++ k.type) := by
      show _ = _
      unfold keyT
      rw [if_pos hc]
      conv => rhs; rw [← data_bs k.group, ← data_bs k.artifact, ← data_bs k.type]
      simp only [bs_append, List.append_assoc, List.append_nil, List.cons_append, List.nil_append]
    clear hc
    go_wp2
    go_ret
    exact ⟨by rw [HK.out]; rfl, HB.out _⟩
  · have he : (k.classifier.toList == []) = false := by rw [str_lit]; simpa using hc
    have HK : Hid (bs (keyT k) = k.group ++ bs [58] ++ k.artifact ++ bs [58] ++ k.type ++ (bs [58] ++ k.classifier)) := by
      show _ = _
      unfold keyT
      rw [if_neg hc]
      conv => rhs; rw [← data_bs k.group, ← data_bs k.artifact, ← data_bs k.type, ← data_bs k.classifier]
      simp only [bs_append, List.append_assoc, List.cons_append, List.nil_append]
    clear hc
    go_wp2
    go_ret
    exact ⟨by rw [HK.out]; rfl, HB.out _⟩

def joinB (xs : List S) : Bs := Lib.join (xs.map (·.data.toList)) [32]
theorem join_any (xs : List S) (bk o c : Nat) (w : World) (hcells : ∀ (j : Nat) x, xs[j]? = some x → w.cell? ⟨bk, o + j, none⟩ = some (.string x)) (hbk : bk < w.heap.size) (hN : xs.length ≤ 140737488355328) (hcap : xs.length ≤ c) (hlen : (joinB xs).length ≤ 140737488355328) (n : Nat) (hn : n = xs.length) :
    Calls Try.prog 42 #[.slice (some ⟨bk, o, none⟩) n c] w fun e w' => e = .returned (.string (bs (joinB xs))) ∧ Below w.heap.size w w' := by
  subst hn
  have HJ := Lib.hid (Try.strings_Join bk o c xs ⟨#[32]⟩ w hcells hbk hN hcap hlen)
  clear hcells hbk hN hcap hlen
  go_enter Try.func42, Try.ntmps42
  go_wp2_with fail
  refine HJ.out.mono ?_
  rintro e w1 ⟨rfl, hb1⟩
  have HB1 := Lib.hid hb1
  clear hb1
  go_wp2
  go_ret
  exact ⟨rfl, HB1.out⟩

theorem joinB_pin (p : Pin) : joinB [p.version, bs (wordB p.scope)] = pinT p := by
  unfold joinB pinT
  simp only [List.map_cons, List.map_nil, bs_data]
theorem wordB_len (n : Int) : (wordB n).length ≤ 10 := by
  unfold wordB
  repeat' split
  all_goals simp
theorem pinT_len (p : Pin) (h : p.version.size ≤ 1000) : (pinT p).length ≤ 1100 := by
  have h1 := wordB_len p.scope
  have h2 : p.version.data.toList.length = p.version.size := size_data _
  unfold pinT
  rw [Lib.join_cons]
  simp only [Lib.joinTail, List.map_cons, List.map_nil, List.flatten_cons, List.flatten_nil, List.length_append, List.length_cons, List.length_nil]
  omega
set_option maxRecDepth 100000 in
theorem tellPin_any (p : Pin) (w : World) (h : p.version.size ≤ 1000) : Calls Try.prog 43 #[.agg #[.string p.key.group, .string p.key.artifact, .string p.key.type, .string p.key.classifier, .string p.version, .int .i64 p.scope]] w fun e w' => e = .returned (.string (bs (pinT p))) ∧ Below w.heap.size w w' := by
  have hlen := pinT_len p h
  rw [← joinB_pin] at hlen ⊢
  have HL := Lib.hid hlen
  clear hlen h
  go_enter Try.func43, Try.ntmps43
  go_wp2_with fail
  refine wp_world ?_
  intro W hW
  have x1 : Box W w.heap.size [.string p.key.group, .string p.key.artifact, .string p.key.type, .string p.key.classifier, .string p.version, .int .i64 p.scope] := by rw [hW]; exact Box.new w _ _ _ rfl
  have hB : Below w.heap.size w W := by rw [hW]; exact (Below.refl _ w).alloc (Nat.le_refl _) _
  clear hW
  have y4 := x1.cell 4 _ rfl
  have y5 := x1.cell 5 _ rfl
  have l1 := x1.lt
  have HB := Lib.hid hB
  clear x1 hB
  have HJ : Hid (∀ t, Calls Try.prog 42 #[.slice (some ⟨W.heap.size, 0, none⟩) 2 2] (W.drew.alloc (.cells #[.string p.version, .string (bs (wordB p.scope))] t)) fun e w' => e = .returned (.string (bs (joinB [p.version, bs (wordB p.scope)]))) ∧ Below (W.drew.alloc (.cells #[.string p.version, .string (bs (wordB p.scope))] t)).heap.size (W.drew.alloc (.cells #[.string p.version, .string (bs (wordB p.scope))] t)) w') := fun t => by
    have hx : Box (W.drew.alloc (.cells [.string p.version, .string (bs (wordB p.scope))].toArray t)) W.heap.size [.string p.version, .string (bs (wordB p.scope))] := Box.new W.drew _ _ _ rfl
    refine join_any [p.version, bs (wordB p.scope)] W.heap.size 0 2 _ (fun j x hj => ?_) hx.lt (by simp) (by simp) (Nat.le_trans HL.out (by decide)) 2 rfl
    rw [Nat.zero_add]
    refine hx.cell j _ ?_
    have := congrArg (Option.map Value.string) hj
    rw [← List.getElem?_map] at this
    exact this
  go_region_law (first | (go_simp; go_at_call 56; refine (word_any _ _).mono ?_; rintro e w1 ⟨rfl, rfl⟩) | (go_simp; go_at_call 42; refine (HJ.out _).mono ?_; rintro e w2 ⟨rfl, hb2⟩; have HB2 := Lib.hid hb2; clear hb2))
  all_goals
    go_wp2
    go_ret
    exact ⟨rfl, HB.out.trans (((belowN (Below.refl _ W) 1).trans ((Below.refl _ W.drew).alloc (Nat.le_refl _) _)).mono HB.out.size |>.trans (HB2.out.mono (by have := HB.out.size; simp; omega)))⟩

end Go.Proofs.Ytmcjpmogjmnfpaa
