/-
  NARROWER THAN 'FOR EVERY INPUT', by the rows' own cells (each row's printed sentence says how): PomReads: loops · PomBeside: loops · PomStays: loops.
  DERIVED. THE GIVEN ROWS OF THIS SEAT. 8 by the template 'for every input the law returns true; each argument reads behind the call as it read before'; 0 by the template 'total and deterministic' (their statements: YtbbbfjcikhpmbaaGreatTotals.lean).
  GIVEN WITH THE SEED: the statements are not yours to turn. If you find one false, say at which input.
  Laid BY PROGRAM, IN A SANDBOX (cutbox-rows.mjs): the forced cells as the released guide's own fill.sh prints them over the translation 4abd0e483b620b53… (all of the seat's roots in one cut). By AI agents, Wed Nov 11 2026. No macro, syntax, notation, axiom, sorry.
-/
import Derived.Test.YtbbbfjcikhpmbaaGreatChecked
import GoSem.Claim
import GoSem.ClaimJoined
import GoSem.ClaimMapViews
import Derived.JoinedTies
import Derived.KernelRfl
namespace Go.Proofs.YtbbbfjcikhpmbaaGreat
/- THE CELL 'sum', in the pinned program and in every row, IS THE sha256 OF THE DUMP (.gsa) THAT YtbbbfjcikhpmbaaGreatProg.lean LOADS. Nothing in Lean hashes anything: it is a label: what it is worth is what the hold of that sum in a sandbox is worth. -/
noncomputable def Tryz.pinned : Pinned := { name := "ytbbbfjcikhpmbaagreat", sum := "4abd0e483b620b53eeead47722ddfbac581703e4dd6d9f74cd0324e34dea3599", checked := Tryz.checked }
namespace Rows
def none {H : Type} : Left H := { results := [], args := [] }

/-- 'pomacelaw07.PomReads': WHATEVER THE INPUT: true; the input reads as it did. -/
def pomReadsSpec : ChangeSpec := { name := "pomReads", fn := fun _ => fun
  | [d] => { results := [.lit (.bool true)], args := [d] }
  | _ => none }
def pomReadsRow : OpenClaim := { program := "ytbbbfjcikhpmbaagreat", sum := "4abd0e483b620b53eeead47722ddfbac581703e4dd6d9f74cd0324e34dea3599", func := "pomace/pomacelaw07.PomReads", spec := "pomReads", inPlace := ["internal/bytealg.CountString", "internal/bytealg.IndexByteString", "internal/bytealg.IndexString", "internal/abi.NoEscape"], unfollowed := true, recurses := true, named := ["internal/bytealg.MaxLen"], loops := true, apart := false }
def PomReadsSaid : Prop := pomReadsRow.holds Tryz.pinned (OpenSpec.ofChange pomReadsSpec)

/-- ITS FALSE NEIGHBOUR: 'it returns false'. Refute it at one input. -/
def pomReadsWrong : ChangeSpec := { name := "pomReads", fn := fun _ => fun
  | [d] => { results := [.lit (.bool false)], args := [d] }
  | _ => none }
def PomReadsWrongFalsely : Prop := pomReadsRow.holds Tryz.pinned (OpenSpec.ofChange pomReadsWrong)

/-- 'pomacelaw07.PomWrites': WHATEVER THE INPUT: true; the input reads as it did. -/
def pomWritesSpec : ChangeSpec := { name := "pomWrites", fn := fun _ => fun
  | [d] => { results := [.lit (.bool true)], args := [d] }
  | _ => none }
def pomWritesRow : OpenClaim := { program := "ytbbbfjcikhpmbaagreat", sum := "4abd0e483b620b53eeead47722ddfbac581703e4dd6d9f74cd0324e34dea3599", func := "pomace/pomacelaw07.PomWrites", spec := "pomWrites", inPlace := ["internal/bytealg.CountString", "internal/bytealg.IndexByteString", "internal/bytealg.IndexString", "internal/abi.NoEscape"], unfollowed := true, recurses := true, named := ["internal/bytealg.MaxLen"], apart := false }
def PomWritesSaid : Prop := pomWritesRow.holds Tryz.pinned (OpenSpec.ofChange pomWritesSpec)

/-- ITS FALSE NEIGHBOUR: 'it returns false'. Refute it at one input. -/
def pomWritesWrong : ChangeSpec := { name := "pomWrites", fn := fun _ => fun
  | [d] => { results := [.lit (.bool false)], args := [d] }
  | _ => none }
def PomWritesWrongFalsely : Prop := pomWritesRow.holds Tryz.pinned (OpenSpec.ofChange pomWritesWrong)

/-- 'pomacelaw07.PomBeside': WHATEVER THE INPUT: true; the input reads as it did. -/
def pomBesideSpec : ChangeSpec := { name := "pomBeside", fn := fun _ => fun
  | [d1, d2, d3] => { results := [.lit (.bool true)], args := [d1, d2, d3] }
  | _ => none }
def pomBesideRow : OpenClaim := { program := "ytbbbfjcikhpmbaagreat", sum := "4abd0e483b620b53eeead47722ddfbac581703e4dd6d9f74cd0324e34dea3599", func := "pomace/pomacelaw07.PomBeside", spec := "pomBeside", inPlace := ["internal/bytealg.CountString", "internal/bytealg.IndexByteString", "internal/bytealg.IndexString", "internal/abi.NoEscape"], unfollowed := true, recurses := true, named := ["internal/bytealg.MaxLen"], loops := true, apart := false }
def PomBesideSaid : Prop := pomBesideRow.holds Tryz.pinned (OpenSpec.ofChange pomBesideSpec)

/-- ITS FALSE NEIGHBOUR: 'it returns false'. Refute it at one input. -/
def pomBesideWrong : ChangeSpec := { name := "pomBeside", fn := fun _ => fun
  | [d1, d2, d3] => { results := [.lit (.bool false)], args := [d1, d2, d3] }
  | _ => none }
def PomBesideWrongFalsely : Prop := pomBesideRow.holds Tryz.pinned (OpenSpec.ofChange pomBesideWrong)

/-- 'pomacelaw07.PomTwice': WHATEVER THE INPUT: true; the input reads as it did. -/
def pomTwiceSpec : ChangeSpec := { name := "pomTwice", fn := fun _ => fun
  | [d1, d2] => { results := [.lit (.bool true)], args := [d1, d2] }
  | _ => none }
def pomTwiceRow : OpenClaim := { program := "ytbbbfjcikhpmbaagreat", sum := "4abd0e483b620b53eeead47722ddfbac581703e4dd6d9f74cd0324e34dea3599", func := "pomace/pomacelaw07.PomTwice", spec := "pomTwice", inPlace := ["internal/bytealg.CountString", "internal/bytealg.IndexByteString", "internal/bytealg.IndexString", "internal/abi.NoEscape"], unfollowed := true, recurses := true, named := ["internal/bytealg.MaxLen"], apart := false }
def PomTwiceSaid : Prop := pomTwiceRow.holds Tryz.pinned (OpenSpec.ofChange pomTwiceSpec)

/-- ITS FALSE NEIGHBOUR: 'it returns false'. Refute it at one input. -/
def pomTwiceWrong : ChangeSpec := { name := "pomTwice", fn := fun _ => fun
  | [d1, d2] => { results := [.lit (.bool false)], args := [d1, d2] }
  | _ => none }
def PomTwiceWrongFalsely : Prop := pomTwiceRow.holds Tryz.pinned (OpenSpec.ofChange pomTwiceWrong)

/-- 'pomacelaw07.PomMays': WHATEVER THE INPUT: true; the input reads as it did. -/
def pomMaysSpec : ChangeSpec := { name := "pomMays", fn := fun _ => fun
  | [d1, d2] => { results := [.lit (.bool true)], args := [d1, d2] }
  | _ => none }
def pomMaysRow : OpenClaim := { program := "ytbbbfjcikhpmbaagreat", sum := "4abd0e483b620b53eeead47722ddfbac581703e4dd6d9f74cd0324e34dea3599", func := "pomace/pomacelaw07.PomMays", spec := "pomMays", inPlace := ["internal/bytealg.CountString", "internal/bytealg.IndexByteString", "internal/bytealg.IndexString", "internal/abi.NoEscape"], unfollowed := true, recurses := true, named := ["internal/bytealg.MaxLen"], apart := false }
def PomMaysSaid : Prop := pomMaysRow.holds Tryz.pinned (OpenSpec.ofChange pomMaysSpec)

/-- ITS FALSE NEIGHBOUR: 'it returns false'. Refute it at one input. -/
def pomMaysWrong : ChangeSpec := { name := "pomMays", fn := fun _ => fun
  | [d1, d2] => { results := [.lit (.bool false)], args := [d1, d2] }
  | _ => none }
def PomMaysWrongFalsely : Prop := pomMaysRow.holds Tryz.pinned (OpenSpec.ofChange pomMaysWrong)

/-- 'pomacelaw07.PomStays': WHATEVER THE INPUT: true; the input reads as it did. -/
def pomStaysSpec : ChangeSpec := { name := "pomStays", fn := fun _ => fun
  | [d] => { results := [.lit (.bool true)], args := [d] }
  | _ => none }
def pomStaysRow : OpenClaim := { program := "ytbbbfjcikhpmbaagreat", sum := "4abd0e483b620b53eeead47722ddfbac581703e4dd6d9f74cd0324e34dea3599", func := "pomace/pomacelaw07.PomStays", spec := "pomStays", inPlace := ["internal/bytealg.CountString", "internal/bytealg.IndexByteString", "internal/bytealg.IndexString", "internal/abi.NoEscape"], unfollowed := true, recurses := true, named := ["internal/bytealg.MaxLen"], loops := true, apart := false }
def PomStaysSaid : Prop := pomStaysRow.holds Tryz.pinned (OpenSpec.ofChange pomStaysSpec)

/-- ITS FALSE NEIGHBOUR: 'it returns false'. Refute it at one input. -/
def pomStaysWrong : ChangeSpec := { name := "pomStays", fn := fun _ => fun
  | [d] => { results := [.lit (.bool false)], args := [d] }
  | _ => none }
def PomStaysWrongFalsely : Prop := pomStaysRow.holds Tryz.pinned (OpenSpec.ofChange pomStaysWrong)

/-- 'pomacelaw07.PomLimits': WHATEVER THE INPUT: true; the input reads as it did. -/
def pomLimitsSpec : ChangeSpec := { name := "pomLimits", fn := fun _ => fun
  | [d1, d2] => { results := [.lit (.bool true)], args := [d1, d2] }
  | _ => none }
def pomLimitsRow : OpenClaim := { program := "ytbbbfjcikhpmbaagreat", sum := "4abd0e483b620b53eeead47722ddfbac581703e4dd6d9f74cd0324e34dea3599", func := "pomace/pomacelaw07.PomLimits", spec := "pomLimits", inPlace := ["internal/bytealg.IndexByteString", "internal/bytealg.IndexString", "internal/bytealg.CountString", "internal/abi.NoEscape"], unfollowed := true, recurses := true, named := ["internal/bytealg.MaxLen"], apart := false }
def PomLimitsSaid : Prop := pomLimitsRow.holds Tryz.pinned (OpenSpec.ofChange pomLimitsSpec)

/-- ITS FALSE NEIGHBOUR: 'it returns false'. Refute it at one input. -/
def pomLimitsWrong : ChangeSpec := { name := "pomLimits", fn := fun _ => fun
  | [d1, d2] => { results := [.lit (.bool false)], args := [d1, d2] }
  | _ => none }
def PomLimitsWrongFalsely : Prop := pomLimitsRow.holds Tryz.pinned (OpenSpec.ofChange pomLimitsWrong)

/-- 'pomacelaw07.PomBack': WHATEVER THE INPUT: true; the input reads as it did. -/
def pomBackSpec : ChangeSpec := { name := "pomBack", fn := fun _ => fun
  | [d] => { results := [.lit (.bool true)], args := [d] }
  | _ => none }
def pomBackRow : OpenClaim := { program := "ytbbbfjcikhpmbaagreat", sum := "4abd0e483b620b53eeead47722ddfbac581703e4dd6d9f74cd0324e34dea3599", func := "pomace/pomacelaw07.PomBack", spec := "pomBack", inPlace := ["internal/bytealg.CountString", "internal/bytealg.IndexByteString", "internal/bytealg.IndexString", "internal/abi.NoEscape"], unfollowed := true, recurses := true, named := ["internal/bytealg.MaxLen"], apart := false }
def PomBackSaid : Prop := pomBackRow.holds Tryz.pinned (OpenSpec.ofChange pomBackSpec)

/-- ITS FALSE NEIGHBOUR: 'it returns false'. Refute it at one input. -/
def pomBackWrong : ChangeSpec := { name := "pomBack", fn := fun _ => fun
  | [d] => { results := [.lit (.bool false)], args := [d] }
  | _ => none }
def PomBackWrongFalsely : Prop := pomBackRow.holds Tryz.pinned (OpenSpec.ofChange pomBackWrong)

/- THE SECOND FORM. 'bulk': how many values and letters a reading holds, each counted each time it is reached (what is shared counts as often as it is met; a slice's spare places count too). A statement '..UptoSaid' is the law's where the arguments, and the package variables that the reading takes, are together of bulk at most 1048576: NARROWER than '..Said'. Prove '..Said' where nothing that the law and all that it calls make is longer than what came in: it says more and counts as full. Else prove '..UptoSaid'. A law counts once. -/
mutual
def uptoBulk {H : Type} : DataW H → Nat
  | .lit (.string bytes) => bytes.length + 1
  | .lit _ => 1
  | .nil => 1
  | .ptr d => uptoBulk d + 1
  | .slice elems spare => uptoBulkAll elems + uptoBulkAll spare + 1
  | .agg parts => uptoBulkAll parts + 1
  | .iface _ d => uptoBulk d + 1
  | .map entries => uptoBulkEntries entries + 1
  | .held _ => 1
def uptoBulkAll {H : Type} : List (DataW H) → Nat
  | [] => 0
  | d :: r => uptoBulk d + uptoBulkAll r
def uptoBulkEntries {H : Type} : List (Lit × DataW H) → Nat
  | [] => 0
  | x :: r => uptoBulkEntry x + uptoBulkEntries r
def uptoBulkEntry {H : Type} : Lit × DataW H → Nat
  | (.string bytes, d) => bytes.length + uptoBulk d + 1
  | (_, d) => uptoBulk d + 1
 end
def uptoSmall : (H : Type) → List (DataW H) → Bool := fun _ ds => decide (uptoBulkAll ds ≤ 1048576)
def OpenSpec.upto (s : _root_.Go.ChangeSpec) : _root_.Go.OpenSpec := { _root_.Go.OpenSpec.ofChange s with cond := some uptoSmall }

/-- 'pomacelaw07.PomReads', WHERE WHAT IT READS IS OF BULK AT MOST 1048576: true; the input reads as it did. -/
def pomReadsUptoRow : OpenClaim := { program := "ytbbbfjcikhpmbaagreat", sum := "4abd0e483b620b53eeead47722ddfbac581703e4dd6d9f74cd0324e34dea3599", func := "pomace/pomacelaw07.PomReads", spec := "pomReads", inPlace := ["internal/bytealg.CountString", "internal/bytealg.IndexByteString", "internal/bytealg.IndexString", "internal/abi.NoEscape"], unfollowed := true, recurses := true, named := ["internal/bytealg.MaxLen"], loops := true, apart := false, narrowed := true }
def PomReadsUptoSaid : Prop := pomReadsUptoRow.holds Tryz.pinned (OpenSpec.upto pomReadsSpec)

/-- 'pomacelaw07.PomWrites', WHERE WHAT IT READS IS OF BULK AT MOST 1048576: true; the input reads as it did. -/
def pomWritesUptoRow : OpenClaim := { program := "ytbbbfjcikhpmbaagreat", sum := "4abd0e483b620b53eeead47722ddfbac581703e4dd6d9f74cd0324e34dea3599", func := "pomace/pomacelaw07.PomWrites", spec := "pomWrites", inPlace := ["internal/bytealg.CountString", "internal/bytealg.IndexByteString", "internal/bytealg.IndexString", "internal/abi.NoEscape"], unfollowed := true, recurses := true, named := ["internal/bytealg.MaxLen"], apart := false, narrowed := true }
def PomWritesUptoSaid : Prop := pomWritesUptoRow.holds Tryz.pinned (OpenSpec.upto pomWritesSpec)

/-- 'pomacelaw07.PomBeside', WHERE WHAT IT READS IS OF BULK AT MOST 1048576: true; the input reads as it did. -/
def pomBesideUptoRow : OpenClaim := { program := "ytbbbfjcikhpmbaagreat", sum := "4abd0e483b620b53eeead47722ddfbac581703e4dd6d9f74cd0324e34dea3599", func := "pomace/pomacelaw07.PomBeside", spec := "pomBeside", inPlace := ["internal/bytealg.CountString", "internal/bytealg.IndexByteString", "internal/bytealg.IndexString", "internal/abi.NoEscape"], unfollowed := true, recurses := true, named := ["internal/bytealg.MaxLen"], loops := true, apart := false, narrowed := true }
def PomBesideUptoSaid : Prop := pomBesideUptoRow.holds Tryz.pinned (OpenSpec.upto pomBesideSpec)

/-- 'pomacelaw07.PomTwice', WHERE WHAT IT READS IS OF BULK AT MOST 1048576: true; the input reads as it did. -/
def pomTwiceUptoRow : OpenClaim := { program := "ytbbbfjcikhpmbaagreat", sum := "4abd0e483b620b53eeead47722ddfbac581703e4dd6d9f74cd0324e34dea3599", func := "pomace/pomacelaw07.PomTwice", spec := "pomTwice", inPlace := ["internal/bytealg.CountString", "internal/bytealg.IndexByteString", "internal/bytealg.IndexString", "internal/abi.NoEscape"], unfollowed := true, recurses := true, named := ["internal/bytealg.MaxLen"], apart := false, narrowed := true }
def PomTwiceUptoSaid : Prop := pomTwiceUptoRow.holds Tryz.pinned (OpenSpec.upto pomTwiceSpec)

/-- 'pomacelaw07.PomMays', WHERE WHAT IT READS IS OF BULK AT MOST 1048576: true; the input reads as it did. -/
def pomMaysUptoRow : OpenClaim := { program := "ytbbbfjcikhpmbaagreat", sum := "4abd0e483b620b53eeead47722ddfbac581703e4dd6d9f74cd0324e34dea3599", func := "pomace/pomacelaw07.PomMays", spec := "pomMays", inPlace := ["internal/bytealg.CountString", "internal/bytealg.IndexByteString", "internal/bytealg.IndexString", "internal/abi.NoEscape"], unfollowed := true, recurses := true, named := ["internal/bytealg.MaxLen"], apart := false, narrowed := true }
def PomMaysUptoSaid : Prop := pomMaysUptoRow.holds Tryz.pinned (OpenSpec.upto pomMaysSpec)

/-- 'pomacelaw07.PomStays', WHERE WHAT IT READS IS OF BULK AT MOST 1048576: true; the input reads as it did. -/
def pomStaysUptoRow : OpenClaim := { program := "ytbbbfjcikhpmbaagreat", sum := "4abd0e483b620b53eeead47722ddfbac581703e4dd6d9f74cd0324e34dea3599", func := "pomace/pomacelaw07.PomStays", spec := "pomStays", inPlace := ["internal/bytealg.CountString", "internal/bytealg.IndexByteString", "internal/bytealg.IndexString", "internal/abi.NoEscape"], unfollowed := true, recurses := true, named := ["internal/bytealg.MaxLen"], loops := true, apart := false, narrowed := true }
def PomStaysUptoSaid : Prop := pomStaysUptoRow.holds Tryz.pinned (OpenSpec.upto pomStaysSpec)

/-- 'pomacelaw07.PomLimits', WHERE WHAT IT READS IS OF BULK AT MOST 1048576: true; the input reads as it did. -/
def pomLimitsUptoRow : OpenClaim := { program := "ytbbbfjcikhpmbaagreat", sum := "4abd0e483b620b53eeead47722ddfbac581703e4dd6d9f74cd0324e34dea3599", func := "pomace/pomacelaw07.PomLimits", spec := "pomLimits", inPlace := ["internal/bytealg.IndexByteString", "internal/bytealg.IndexString", "internal/bytealg.CountString", "internal/abi.NoEscape"], unfollowed := true, recurses := true, named := ["internal/bytealg.MaxLen"], apart := false, narrowed := true }
def PomLimitsUptoSaid : Prop := pomLimitsUptoRow.holds Tryz.pinned (OpenSpec.upto pomLimitsSpec)

/-- 'pomacelaw07.PomBack', WHERE WHAT IT READS IS OF BULK AT MOST 1048576: true; the input reads as it did. -/
def pomBackUptoRow : OpenClaim := { program := "ytbbbfjcikhpmbaagreat", sum := "4abd0e483b620b53eeead47722ddfbac581703e4dd6d9f74cd0324e34dea3599", func := "pomace/pomacelaw07.PomBack", spec := "pomBack", inPlace := ["internal/bytealg.CountString", "internal/bytealg.IndexByteString", "internal/bytealg.IndexString", "internal/abi.NoEscape"], unfollowed := true, recurses := true, named := ["internal/bytealg.MaxLen"], apart := false, narrowed := true }
def PomBackUptoSaid : Prop := pomBackUptoRow.holds Tryz.pinned (OpenSpec.upto pomBackSpec)

end Rows
end Go.Proofs.YtbbbfjcikhpmbaaGreat
