/- Walks: lock.line, coord.PrintGav, the document's PrintKey, lock.Print; the conditions stand in the theorems. -/
import Derived.Test.YtopknpainclmgaaGreatDoorD5
import Derived.Test.YtopknpainclmgaaGreatDoorDB
import Derived.Deep.RegionHeld3
namespace Go.Proofs.YtopknpainclmgaaGreatDoor
open Go Go.RowKit

def joinB (xs : List S) : Bs := Lib.join (xs.map (·.data.toList)) [32]
def gavT (g : Gav) : Bs := g.group.data.toList ++ 58 :: g.artifact.data.toList ++ 58 :: g.version.data.toList
def pinLine (p : Pin) : Bs := pinW ++ 32 :: (keyT p.key ++ 32 :: (p.version.data.toList ++ 32 :: (wordB p.scope ++ [10])))
def headT (g : Gav) : Bs := headB ++ 10 :: (rootW ++ gavT g ++ [10])
def printB (l : Lock) : Bs := headT l.root ++ l.pins.flatMap pinLine ++ (endB l.pins.length ++ [10])
/-- A lock of texts and of a length that are printed here. -/
structure lockS (l : Lock) : Prop where
  root : l.root.group.size ≤ 1000 ∧ l.root.artifact.size ≤ 1000 ∧ l.root.version.size ≤ 1000
  pins : ∀ p ∈ l.pins, keyS p.key ∧ p.version.size ≤ 1000
  len : l.pins.length ≤ 10000
theorem wordB_len (n : Int) : (wordB n).length ≤ 10 := by
  unfold wordB
  repeat' split
  all_goals simp
theorem keyT_len {k : Key} (h : keyS k) : (keyT k).length ≤ 4003 := by
  obtain ⟨h1, h2, h3, h4⟩ := h
  have e1 := size_data k.group
  have e2 := size_data k.artifact
  have e3 := size_data k.type
  have e4 := size_data k.classifier
  unfold keyT
  split
  · simp only [List.length_append, List.length_cons, List.length_nil]; omega
  · simp only [List.length_append, List.length_cons]; omega
theorem gavT_len {g : Gav} (h : g.group.size ≤ 1000 ∧ g.artifact.size ≤ 1000 ∧ g.version.size ≤ 1000) : (gavT g).length ≤ 3002 := by
  have e1 := size_data g.group
  have e2 := size_data g.artifact
  have e3 := size_data g.version
  unfold gavT
  simp only [List.length_append, List.length_cons]; omega
theorem pinLine_len {p : Pin} (h : keyS p.key ∧ p.version.size ≤ 1000) : (pinLine p).length ≤ 5100 := by
  have h1 := keyT_len h.1
  have h2 := wordB_len p.scope
  have e1 := size_data p.version
  unfold pinLine pinW
  simp only [List.length_append, List.length_cons, List.length_nil]; omega
theorem lines_len : ∀ {ps : List Pin}, (∀ p ∈ ps, keyS p.key ∧ p.version.size ≤ 1000) → (ps.flatMap pinLine).length ≤ ps.length * 5100
  | [], _ => by simp
  | p :: ps, h => by
    have h1 := pinLine_len (h p (by simp))
    have h2 := lines_len (ps := ps) (fun q hq => h q (by simp [hq]))
    rw [List.flatMap_cons, List.length_append, List.length_cons]; omega
theorem headT_len {g : Gav} (h : g.group.size ≤ 1000 ∧ g.artifact.size ≤ 1000 ∧ g.version.size ≤ 1000) : (headT g).length ≤ 3100 := by
  have := gavT_len h
  unfold headT headB rootW
  simp only [List.length_append, List.length_cons, List.length_nil]; omega
set_option maxRecDepth 100000 in
theorem printGav_any (g : Gav) (w : World) (h : g.group.size ≤ 1000 ∧ g.artifact.size ≤ 1000 ∧ g.version.size ≤ 1000) : Calls Tryz.prog 33 #[.agg #[.string g.group, .string g.artifact, .string g.version]] w fun e w' => e = .returned (.string (bs (gavT g))) ∧ Below w.heap.size w w' := by
  obtain ⟨h1, h2, h3⟩ := h
  have HB : Hid (∀ o, Below w.heap.size w (w.alloc o)) := fun o => (Below.refl _ w).alloc (Nat.le_refl _) _
  have HK : Hid (bs (gavT g) = g.group ++ bs [58] ++ g.artifact ++ bs [58] ++ g.version) := by
    show _ = _
    unfold gavT
    conv => rhs; rw [← data_bs g.group, ← data_bs g.artifact, ← data_bs g.version]
    simp only [bs_append, List.append_assoc, List.cons_append, List.nil_append]
  go_enter Tryz.func33, Tryz.ntmps33
  go_wp2
  go_ret
  exact ⟨by rw [HK.out]; rfl, HB.out _⟩
theorem line_any (xs : List S) (bk o c : Nat) (w : World) (hcells : ∀ (j : Nat) x, xs[j]? = some x → w.cell? ⟨bk, o + j, none⟩ = some (.string x)) (hbk : bk < w.heap.size) (hN : xs.length ≤ 100) (hcap : xs.length ≤ c) (hlen : (joinB xs).length ≤ 1000000000) (n : Nat) (hn : n = xs.length) :
    Calls Tryz.prog 32 #[.slice (some ⟨bk, o, none⟩) n c] w fun e w' => e = .returned (.string (bs (joinB xs ++ [10]))) ∧ Below w.heap.size w w' := by
  subst hn
  have HJ := Lib.hid (Tryz.strings_Join bk o c xs ⟨#[32]⟩ w hcells hbk (by omega) hcap (Nat.le_trans hlen (by decide)))
  have HJ := Lib.hid (show Calls _ _ _ _ fun e w' => e = .returned (.string (bs (joinB xs))) ∧ Below w.heap.size w w' from HJ.out)
  have hs : (bs (joinB xs)).size ≤ 1000000000 := by rw [bs_size]; exact hlen
  have HA := Lib.hid (bs_append (joinB xs) [10])
  clear hcells hbk hN hcap hlen
  generalize hj : bs (joinB xs) = js at *
  clear hj
  have hsum : ¬ 9223372036854775807 < js.size + 1 := by omega
  go_enter Tryz.func32, Tryz.ntmps32
  go_wp2_with fail
  refine HJ.out.mono ?_
  rintro e w1 ⟨rfl, hb1⟩
  have HB1 := Lib.hid hb1
  clear hb1
  go_wp2
  go_ret
  exact ⟨by rw [← HA.out]; rfl, HB1.out⟩
/-- A line of words that are written out. -/
theorem line_lit (xs : List S) (W : World) (t H n : Nat) (hH : W.heap.size = H) (hn : n = xs.length) (hN : xs.length ≤ 100) (hlen : (joinB xs).length ≤ 1000000000) :
    Calls Tryz.prog 32 #[.slice (some ⟨H, 0, none⟩) n n] (W.alloc (.cells (xs.map Value.string).toArray t)) fun e w' => e = .returned (.string (bs (joinB xs ++ [10]))) ∧ Below W.heap.size W w' := by
  subst hn
  have hx : Box (W.alloc (.cells (xs.map Value.string).toArray t)) H (xs.map Value.string) := Box.new W _ _ _ hH
  refine (line_any xs H 0 xs.length _ (fun j x hj => ?_) hx.lt hN (Nat.le_refl _) hlen xs.length rfl).mono ?_
  · rw [Nat.zero_add]
    exact hx.cell j _ (by simp [hj])
  · rintro e w' ⟨rfl, hb⟩
    exact ⟨rfl, ((Below.refl W.heap.size W).alloc (Nat.le_refl _) _).trans (hb.mono (by simp))⟩
theorem joinB_one (a : S) : joinB [a] = a.data.toList := by simp [joinB, Lib.join]
theorem joinB_two (a b : S) : joinB [a, b] = a.data.toList ++ 32 :: b.data.toList := by simp [joinB, Lib.join_cons, Lib.joinTail]
theorem joinB_four (a b c d : S) : joinB [a, b, c, d] = a.data.toList ++ 32 :: (b.data.toList ++ 32 :: (c.data.toList ++ 32 :: d.data.toList)) := by simp [joinB, Lib.join_cons, Lib.joinTail]

end Go.Proofs.YtopknpainclmgaaGreatDoor
