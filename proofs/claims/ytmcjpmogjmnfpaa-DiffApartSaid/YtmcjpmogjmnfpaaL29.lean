/- Walks: the sort of pins, by its contract; the conditions stand in the theorem. -/
import Derived.Test.YtmcjpmogjmnfpaaLSort
import Derived.Test.YtmcjpmogjmnfpaaL28
import Derived.Test.YtmcjpmogjmnfpaaLE
namespace Go.Proofs.Ytmcjpmogjmnfpaa
open Go Go.RowKit Go.Sort Go.Proofs

instance pinInhabited : Inhabited Pin := ⟨noPin⟩
def cfP (p q : Pin) : Int := cmpK p.key q.key
theorem ltP (p q : Pin) : ltOf cfP p q = decide (cmpK p.key q.key = -1) := by
  unfold ltOf cfP
  rcases cmpK_range p.key q.key with h | h | h <;> rw [h] <;> decide
theorem swoP : SWO (ltOf cfP) where
  irrefl x := by rw [ltP, cmpK_refl]; decide
  trans x y z h1 h2 := by
    rw [ltP, decide_eq_true_eq] at *
    exact cmpK_trans h1 h2
  ntrans x y z h1 h2 := by
    rw [ltP, decide_eq_false_iff_not] at *
    intro h3
    rcases merge_cases x.key y.key with h | ⟨h, -⟩ | ⟨h, -⟩
    · exact h1 h
    · rcases merge_cases y.key z.key with g | ⟨g, -⟩ | ⟨g, -⟩
      · exact h2 g
      · exact cmpK_irr (cmpK_trans h3 (cmpK_trans g h))
      · rw [g] at h; exact cmpK_irr (cmpK_trans h3 h)
    · rw [h] at h3; exact h2 h3
theorem sortPins_raw (blk off cap : Nat) (d : Array Pin) (w : World) (hH : HoldsK pinC 6 w blk off d) (hblk : blk < w.heap.size) (hsz : d.size < 4611686018427387904) :
    Calls Try.prog 33 #[.slice (some ⟨blk, off, none⟩) d.size cap, .func (.func 34) #[] #[]] w fun e w' => e = .returned (.tuple #[]) ∧ ∃ d' n os, PermIn 0 d.size d d' ∧ SortedIn (ltOf cfP) 0 d.size d' ∧ w' = sortWorldK pinC 6 w blk off n d' os := by
  have eg : ∀ args w, (callFunc 34 args).run Try.prog w = .ok (.enter 34 args) w := enters_of Try.func34 (by kernel_rfl) rfl
  exact AnyQ.slices_SortFunc Try.sortPins 6 Try.isAgg44 Try.sizeOf44 pinC pinC_len (fun x v hv => pinC_one v hv) cfP swoP 34 #[] blk off cap d w eg (fun m os dk _ x y => cmpPins_any x y _) hH hblk hsz

end Go.Proofs.Ytmcjpmogjmnfpaa
