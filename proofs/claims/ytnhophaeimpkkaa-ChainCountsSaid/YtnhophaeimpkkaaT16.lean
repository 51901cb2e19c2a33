/- Both merges in every case; prop.Get; its conditions stand in the theorems. -/
import Derived.Test.YtnhophaeimpkkaaT15c
import Derived.Test.YtnhophaeimpkkaaT15b
import Derived.Test.YtnhophaeimpkkaaOwn2
import Derived.Deep.RegionHeld3
import Derived.Deep.DrawnRows
import Derived.WalkKit
import Derived.WalkSpells
import Derived.WalkLawsBesides
namespace Go.Proofs.Ytnhophaeimpkkaa
open Go Go.RowKit

theorem merge_any (c p : Pom) (pv mv dv pv2 mv2 dv2 : Value) (w : World) (hc : PomOf w (.agg (pomC c pv mv dv).toArray) c pv mv dv) (hp : PomOf w (.agg (pomC p pv2 mv2 dv2).toArray) p pv2 mv2 dv2) (hS : Small c p) :
    Calls Try.prog 9 #[.agg (pomC c pv mv dv).toArray, .agg (pomC p pv2 mv2 dv2).toArray] w (RetMerged (merge c p) w) := by
  cases h : c.hasParent
  · exact merge_ff c p pv mv dv pv2 mv2 dv2 w hc hp hS h
  · cases hg : isE c.group <;> cases hv : isE c.version
    · exact merge_ff2 c p pv mv dv pv2 mv2 dv2 w hc hp hS h hg hv
    · exact merge_ft2 c p pv mv dv pv2 mv2 dv2 w hc hp hS h hg hv
    · exact merge_tf c p pv mv dv pv2 mv2 dv2 w hc hp hS h hg hv
    · exact merge_tt c p pv mv dv pv2 mv2 dv2 w hc hp hS h hg hv

theorem refMerge_any (c p : Pom) (pv mv dv pv2 mv2 dv2 : Value) (w : World) (hc : PomOf w (.agg (pomC c pv mv dv).toArray) c pv mv dv) (hp : PomOf w (.agg (pomC p pv2 mv2 dv2).toArray) p pv2 mv2 dv2) (hS : Small c p) :
    Calls Try.prog 11 #[.agg (pomC c pv mv dv).toArray, .agg (pomC p pv2 mv2 dv2).toArray] w (RetPom (merge c p) w) := by
  cases h : c.hasParent
  · exact refMerge_ff c p pv mv dv pv2 mv2 dv2 w hc hp hS h
  · cases hg : isE c.group <;> cases hv : isE c.version
    · exact refMerge_ff2 c p pv mv dv pv2 mv2 dv2 w hc hp hS h hg hv
    · exact refMerge_ft c p pv mv dv pv2 mv2 dv2 w hc hp hS h hg hv
    · exact refMerge_tf c p pv mv dv pv2 mv2 dv2 w hc hp hS h hg hv
    · exact refMerge_tt c p pv mv dv pv2 mv2 dv2 w hc hp hS h hg hv

def get : List Prp → S → S × Bool
  | [], _ => (⟨#[]⟩, false)
  | p :: l, n => if p.name = n then (p.value, true) else get l n

theorem get_none (i : Nat) (l : List Prp) (n : S) (h : at_ i l n = -1) : get l n = (⟨#[]⟩, false) := by
  induction l generalizing i with
  | nil => rfl
  | cons x l ih =>
    simp only [at_] at h
    split at h
    · omega
    · rename_i hn; simp only [get, if_neg hn, ih _ h]

theorem get_some (i : Nat) (l : List Prp) (n : S) (k : Nat) (h : at_ i l n = (k : Int)) : i ≤ k ∧ ∃ x, l[k - i]? = some x ∧ get l n = (x.value, true) := by
  induction l generalizing i with
  | nil => simp [at_] at h
  | cons x l ih =>
    simp only [at_] at h
    split at h
    · rename_i hn
      have : i = k := by omega
      subst this
      exact ⟨Nat.le_refl _, x, by simp, by simp [get, hn]⟩
    · rename_i hn
      obtain ⟨h1, y, h2, h3⟩ := ih _ h
      have e : k - i = (k - (i + 1)) + 1 := by omega
      exact ⟨by omega, y, by rw [e]; simpa using h2, by simp [get, hn, h3]⟩

set_option maxHeartbeats 400000 in
theorem get_any (l : List Prp) (n : S) (v : Value) (w : World) (hs : SliceOf 2 prpC w v l) (hl : l.length ≤ 140737488355328) :
    Calls Try.prog 13 #[v, .string n] w fun e w' => e = .returned (.tuple #[.string (get l n).1, .bool (get l n).2]) ∧ Below w.heap.size w w' := by
  obtain ⟨ao, cap, rfl⟩ := hs.shape
  rcases at_ge 0 l n with hat | ⟨k, -, hk, hat⟩
  · rw [get_none 0 l n hat]
    have Hat := Lib.hid hat
    clear hat
    go_enter Try.func13, Try.ntmps13
    go_wp2_with (go_at_call 31; refine (propAt_any l n _ _ hs hl).mono ?_; rintro e w1 ⟨rfl, hb1⟩; rw [Hat.out])
    go_ret2
    exact ⟨rfl, hb1⟩
  · obtain ⟨-, x, hx, hg⟩ := get_some 0 l n k hat
    rw [hg]
    have hk' : k < l.length := by omega
    have hxl : l[k] = x := by simpa [hk'] using hx
    have Hat := Lib.hid hat
    clear hat hg hx
    go_enter Try.func13, Try.ntmps13
    go_wp2_with fail
    refine (propAt_any l n _ _ hs hl).mono ?_
    rintro e w1 ⟨rfl, hb1⟩
    rw [Hat.out]
    obtain ⟨b, o, rfl, -, h0, h1⟩ := (hs.below hb1).atPrp hk'
    rw [hxl] at h0 h1
    clear hxl hs
    go_wp2
    go_ret2
    exact ⟨rfl, hb1⟩

end Go.Proofs.Ytnhophaeimpkkaa
