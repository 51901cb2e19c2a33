/-
  NARROWER THAN 'FOR EVERY INPUT', by the rows' own cells (each row's printed sentence says how): TreeNotes: loops · TreeAsks: loops · TreeSame: loops · TreeBack: loops · TreePrints: loops.
  DERIVED. THE GIVEN ROWS OF THIS SEAT. 16 by the template 'for every input the law returns true; each argument reads behind the call as it read before'; 0 by the template 'total and deterministic' (their statements: YtpchljiiappmnaaTotals.lean).
  GIVEN WITH THE SEED: the statements are not yours to turn. If you find one false, say at which input.
  Laid BY PROGRAM, IN A SANDBOX (cutbox-rows.mjs): the forced cells as the released guide's own fill.sh prints them over the translation eeb4ac339ae21cbf… (all of the seat's roots in one cut). By AI agents, Wed Nov 11 2026. No macro, syntax, notation, axiom, sorry.
-/
import Derived.Test.YtpchljiiappmnaaChecked
import GoSem.Claim
import GoSem.ClaimJoined
import GoSem.ClaimMapViews
import Derived.JoinedTies
import Derived.KernelRfl
namespace Go.Proofs.Ytpchljiiappmnaa
/- THE CELL 'sum', in the pinned program and in every row, IS THE sha256 OF THE DUMP (.gsa) THAT YtpchljiiappmnaaProg.lean LOADS. Nothing in Lean hashes anything: it is a label: what it is worth is what the hold of that sum in a sandbox is worth. -/
noncomputable def Try.pinned : Pinned := { name := "ytpchljiiappmnaa", sum := "eeb4ac339ae21cbf9fab3c78360a560ea710414d1b8b23cdcabf9637a9b965c3", checked := Try.checked }
namespace Rows
def none {H : Type} : Left H := { results := [], args := [] }

/-- 'pomacelaw02.TokenAll': WHATEVER THE INPUT: true; the input reads as it did. -/
def tokenAllSpec : ChangeSpec := { name := "tokenAll", fn := fun _ => fun
  | [d] => { results := [.lit (.bool true)], args := [d] }
  | _ => none }
def tokenAllRow : OpenClaim := { program := "ytpchljiiappmnaa", sum := "eeb4ac339ae21cbf9fab3c78360a560ea710414d1b8b23cdcabf9637a9b965c3", func := "pomace/pomacelaw02.TokenAll", spec := "tokenAll", inPlace := ["internal/bytealg.CountString", "internal/bytealg.IndexByteString", "internal/bytealg.IndexString", "internal/abi.NoEscape"], unfollowed := true, recurses := true, named := ["internal/bytealg.MaxLen"], apart := false }
def TokenAllSaid : Prop := tokenAllRow.holds Try.pinned (OpenSpec.ofChange tokenAllSpec)

/-- ITS FALSE NEIGHBOUR: 'it returns false'. Refute it at one input. -/
def tokenAllWrong : ChangeSpec := { name := "tokenAll", fn := fun _ => fun
  | [d] => { results := [.lit (.bool false)], args := [d] }
  | _ => none }
def TokenAllWrongFalsely : Prop := tokenAllRow.holds Try.pinned (OpenSpec.ofChange tokenAllWrong)

/-- 'pomacelaw02.TokenRises': WHATEVER THE INPUT: true; the input reads as it did. -/
def tokenRisesSpec : ChangeSpec := { name := "tokenRises", fn := fun _ => fun
  | [d] => { results := [.lit (.bool true)], args := [d] }
  | _ => none }
def tokenRisesRow : OpenClaim := { program := "ytpchljiiappmnaa", sum := "eeb4ac339ae21cbf9fab3c78360a560ea710414d1b8b23cdcabf9637a9b965c3", func := "pomace/pomacelaw02.TokenRises", spec := "tokenRises", inPlace := ["internal/bytealg.CountString", "internal/bytealg.IndexByteString", "internal/bytealg.IndexString", "internal/abi.NoEscape"], unfollowed := true, recurses := true, named := ["internal/bytealg.MaxLen"], apart := false }
def TokenRisesSaid : Prop := tokenRisesRow.holds Try.pinned (OpenSpec.ofChange tokenRisesSpec)

/-- ITS FALSE NEIGHBOUR: 'it returns false'. Refute it at one input. -/
def tokenRisesWrong : ChangeSpec := { name := "tokenRises", fn := fun _ => fun
  | [d] => { results := [.lit (.bool false)], args := [d] }
  | _ => none }
def TokenRisesWrongFalsely : Prop := tokenRisesRow.holds Try.pinned (OpenSpec.ofChange tokenRisesWrong)

/-- 'pomacelaw02.TokenStays': WHATEVER THE INPUT: true; the input reads as it did. -/
def tokenStaysSpec : ChangeSpec := { name := "tokenStays", fn := fun _ => fun
  | [d1, d2] => { results := [.lit (.bool true)], args := [d1, d2] }
  | _ => none }
def tokenStaysRow : OpenClaim := { program := "ytpchljiiappmnaa", sum := "eeb4ac339ae21cbf9fab3c78360a560ea710414d1b8b23cdcabf9637a9b965c3", func := "pomace/pomacelaw02.TokenStays", spec := "tokenStays", inPlace := ["internal/bytealg.CountString", "internal/bytealg.IndexByteString", "internal/bytealg.IndexString", "internal/abi.NoEscape"], unfollowed := true, recurses := true, named := ["internal/bytealg.MaxLen"], apart := false }
def TokenStaysSaid : Prop := tokenStaysRow.holds Try.pinned (OpenSpec.ofChange tokenStaysSpec)

/-- ITS FALSE NEIGHBOUR: 'it returns false'. Refute it at one input. -/
def tokenStaysWrong : ChangeSpec := { name := "tokenStays", fn := fun _ => fun
  | [d1, d2] => { results := [.lit (.bool false)], args := [d1, d2] }
  | _ => none }
def TokenStaysWrongFalsely : Prop := tokenStaysRow.holds Try.pinned (OpenSpec.ofChange tokenStaysWrong)

/-- 'pomacelaw02.TokenTags': WHATEVER THE INPUT: true; the input reads as it did. -/
def tokenTagsSpec : ChangeSpec := { name := "tokenTags", fn := fun _ => fun
  | [d1, d2, d3] => { results := [.lit (.bool true)], args := [d1, d2, d3] }
  | _ => none }
def tokenTagsRow : OpenClaim := { program := "ytpchljiiappmnaa", sum := "eeb4ac339ae21cbf9fab3c78360a560ea710414d1b8b23cdcabf9637a9b965c3", func := "pomace/pomacelaw02.TokenTags", spec := "tokenTags", inPlace := ["internal/bytealg.CountString", "internal/bytealg.IndexByteString", "internal/bytealg.IndexString", "internal/abi.NoEscape"], unfollowed := true, recurses := true, named := ["internal/bytealg.MaxLen"], apart := false }
def TokenTagsSaid : Prop := tokenTagsRow.holds Try.pinned (OpenSpec.ofChange tokenTagsSpec)

/-- ITS FALSE NEIGHBOUR: 'it returns false'. Refute it at one input. -/
def tokenTagsWrong : ChangeSpec := { name := "tokenTags", fn := fun _ => fun
  | [d1, d2, d3] => { results := [.lit (.bool false)], args := [d1, d2, d3] }
  | _ => none }
def TokenTagsWrongFalsely : Prop := tokenTagsRow.holds Try.pinned (OpenSpec.ofChange tokenTagsWrong)

/-- 'pomacelaw02.TokenPlain': WHATEVER THE INPUT: true; the input reads as it did. -/
def tokenPlainSpec : ChangeSpec := { name := "tokenPlain", fn := fun _ => fun
  | [d] => { results := [.lit (.bool true)], args := [d] }
  | _ => none }
def tokenPlainRow : OpenClaim := { program := "ytpchljiiappmnaa", sum := "eeb4ac339ae21cbf9fab3c78360a560ea710414d1b8b23cdcabf9637a9b965c3", func := "pomace/pomacelaw02.TokenPlain", spec := "tokenPlain", inPlace := ["internal/bytealg.CountString", "internal/bytealg.IndexByteString", "internal/bytealg.IndexString", "internal/abi.NoEscape"], unfollowed := true, recurses := true, named := ["internal/bytealg.MaxLen"], apart := false }
def TokenPlainSaid : Prop := tokenPlainRow.holds Try.pinned (OpenSpec.ofChange tokenPlainSpec)

/-- ITS FALSE NEIGHBOUR: 'it returns false'. Refute it at one input. -/
def tokenPlainWrong : ChangeSpec := { name := "tokenPlain", fn := fun _ => fun
  | [d] => { results := [.lit (.bool false)], args := [d] }
  | _ => none }
def TokenPlainWrongFalsely : Prop := tokenPlainRow.holds Try.pinned (OpenSpec.ofChange tokenPlainWrong)

/-- 'pomacelaw02.TokenLimits': WHATEVER THE INPUT: true; the input reads as it did. -/
def tokenLimitsSpec : ChangeSpec := { name := "tokenLimits", fn := fun _ => fun
  | [d] => { results := [.lit (.bool true)], args := [d] }
  | _ => none }
def tokenLimitsRow : OpenClaim := { program := "ytpchljiiappmnaa", sum := "eeb4ac339ae21cbf9fab3c78360a560ea710414d1b8b23cdcabf9637a9b965c3", func := "pomace/pomacelaw02.TokenLimits", spec := "tokenLimits", inPlace := ["internal/bytealg.CountString", "internal/bytealg.IndexByteString", "internal/bytealg.IndexString", "internal/abi.NoEscape"], unfollowed := true, recurses := true, named := ["internal/bytealg.MaxLen"], apart := false }
def TokenLimitsSaid : Prop := tokenLimitsRow.holds Try.pinned (OpenSpec.ofChange tokenLimitsSpec)

/-- ITS FALSE NEIGHBOUR: 'it returns false'. Refute it at one input. -/
def tokenLimitsWrong : ChangeSpec := { name := "tokenLimits", fn := fun _ => fun
  | [d] => { results := [.lit (.bool false)], args := [d] }
  | _ => none }
def TokenLimitsWrongFalsely : Prop := tokenLimitsRow.holds Try.pinned (OpenSpec.ofChange tokenLimitsWrong)

/-- 'pomacelaw02.TokenPrints': WHATEVER THE INPUT: true; the input reads as it did. -/
def tokenPrintsSpec : ChangeSpec := { name := "tokenPrints", fn := fun _ => fun
  | [d] => { results := [.lit (.bool true)], args := [d] }
  | _ => none }
def tokenPrintsRow : OpenClaim := { program := "ytpchljiiappmnaa", sum := "eeb4ac339ae21cbf9fab3c78360a560ea710414d1b8b23cdcabf9637a9b965c3", func := "pomace/pomacelaw02.TokenPrints", spec := "tokenPrints", inPlace := ["internal/bytealg.CountString", "internal/bytealg.IndexByteString", "internal/bytealg.IndexString", "internal/abi.NoEscape"], unfollowed := true, recurses := true, named := ["internal/bytealg.MaxLen"], apart := false }
def TokenPrintsSaid : Prop := tokenPrintsRow.holds Try.pinned (OpenSpec.ofChange tokenPrintsSpec)

/-- ITS FALSE NEIGHBOUR: 'it returns false'. Refute it at one input. -/
def tokenPrintsWrong : ChangeSpec := { name := "tokenPrints", fn := fun _ => fun
  | [d] => { results := [.lit (.bool false)], args := [d] }
  | _ => none }
def TokenPrintsWrongFalsely : Prop := tokenPrintsRow.holds Try.pinned (OpenSpec.ofChange tokenPrintsWrong)

/-- 'pomacelaw02.TokenBack': WHATEVER THE INPUT: true; the input reads as it did. -/
def tokenBackSpec : ChangeSpec := { name := "tokenBack", fn := fun _ => fun
  | [d] => { results := [.lit (.bool true)], args := [d] }
  | _ => none }
def tokenBackRow : OpenClaim := { program := "ytpchljiiappmnaa", sum := "eeb4ac339ae21cbf9fab3c78360a560ea710414d1b8b23cdcabf9637a9b965c3", func := "pomace/pomacelaw02.TokenBack", spec := "tokenBack", inPlace := ["internal/bytealg.CountString", "internal/bytealg.IndexByteString", "internal/bytealg.IndexString", "internal/abi.NoEscape"], unfollowed := true, recurses := true, named := ["internal/bytealg.MaxLen"], apart := false }
def TokenBackSaid : Prop := tokenBackRow.holds Try.pinned (OpenSpec.ofChange tokenBackSpec)

/-- ITS FALSE NEIGHBOUR: 'it returns false'. Refute it at one input. -/
def tokenBackWrong : ChangeSpec := { name := "tokenBack", fn := fun _ => fun
  | [d] => { results := [.lit (.bool false)], args := [d] }
  | _ => none }
def TokenBackWrongFalsely : Prop := tokenBackRow.holds Try.pinned (OpenSpec.ofChange tokenBackWrong)

/-- 'pomacelaw03.TreeBuilds': WHATEVER THE INPUT: true; the input reads as it did. -/
def treeBuildsSpec : ChangeSpec := { name := "treeBuilds", fn := fun _ => fun
  | [d] => { results := [.lit (.bool true)], args := [d] }
  | _ => none }
def treeBuildsRow : OpenClaim := { program := "ytpchljiiappmnaa", sum := "eeb4ac339ae21cbf9fab3c78360a560ea710414d1b8b23cdcabf9637a9b965c3", func := "pomace/pomacelaw03.TreeBuilds", spec := "treeBuilds", inPlace := ["internal/bytealg.CountString", "internal/bytealg.IndexByteString", "internal/bytealg.IndexString", "internal/abi.NoEscape"], unfollowed := true, recurses := true, named := ["internal/bytealg.MaxLen"], apart := false }
def TreeBuildsSaid : Prop := treeBuildsRow.holds Try.pinned (OpenSpec.ofChange treeBuildsSpec)

/-- ITS FALSE NEIGHBOUR: 'it returns false'. Refute it at one input. -/
def treeBuildsWrong : ChangeSpec := { name := "treeBuilds", fn := fun _ => fun
  | [d] => { results := [.lit (.bool false)], args := [d] }
  | _ => none }
def TreeBuildsWrongFalsely : Prop := treeBuildsRow.holds Try.pinned (OpenSpec.ofChange treeBuildsWrong)

/-- 'pomacelaw03.TreeNotes': WHATEVER THE INPUT: true; the input reads as it did. -/
def treeNotesSpec : ChangeSpec := { name := "treeNotes", fn := fun _ => fun
  | [d1, d2] => { results := [.lit (.bool true)], args := [d1, d2] }
  | _ => none }
def treeNotesRow : OpenClaim := { program := "ytpchljiiappmnaa", sum := "eeb4ac339ae21cbf9fab3c78360a560ea710414d1b8b23cdcabf9637a9b965c3", func := "pomace/pomacelaw03.TreeNotes", spec := "treeNotes", inPlace := ["internal/bytealg.CountString", "internal/bytealg.IndexByteString", "internal/bytealg.IndexString", "internal/abi.NoEscape"], unfollowed := true, recurses := true, named := ["internal/bytealg.MaxLen"], loops := true, apart := false }
def TreeNotesSaid : Prop := treeNotesRow.holds Try.pinned (OpenSpec.ofChange treeNotesSpec)

/-- ITS FALSE NEIGHBOUR: 'it returns false'. Refute it at one input. -/
def treeNotesWrong : ChangeSpec := { name := "treeNotes", fn := fun _ => fun
  | [d1, d2] => { results := [.lit (.bool false)], args := [d1, d2] }
  | _ => none }
def TreeNotesWrongFalsely : Prop := treeNotesRow.holds Try.pinned (OpenSpec.ofChange treeNotesWrong)

/-- 'pomacelaw03.TreeLimits': WHATEVER THE INPUT: true; the input reads as it did. -/
def treeLimitsSpec : ChangeSpec := { name := "treeLimits", fn := fun _ => fun
  | [d1, d2, d3] => { results := [.lit (.bool true)], args := [d1, d2, d3] }
  | _ => none }
def treeLimitsRow : OpenClaim := { program := "ytpchljiiappmnaa", sum := "eeb4ac339ae21cbf9fab3c78360a560ea710414d1b8b23cdcabf9637a9b965c3", func := "pomace/pomacelaw03.TreeLimits", spec := "treeLimits", inPlace := ["internal/bytealg.CountString", "internal/bytealg.IndexByteString", "internal/bytealg.IndexString", "internal/abi.NoEscape"], unfollowed := true, recurses := true, named := ["internal/bytealg.MaxLen"], apart := false }
def TreeLimitsSaid : Prop := treeLimitsRow.holds Try.pinned (OpenSpec.ofChange treeLimitsSpec)

/-- ITS FALSE NEIGHBOUR: 'it returns false'. Refute it at one input. -/
def treeLimitsWrong : ChangeSpec := { name := "treeLimits", fn := fun _ => fun
  | [d1, d2, d3] => { results := [.lit (.bool false)], args := [d1, d2, d3] }
  | _ => none }
def TreeLimitsWrongFalsely : Prop := treeLimitsRow.holds Try.pinned (OpenSpec.ofChange treeLimitsWrong)

/-- 'pomacelaw03.TreeAsks': WHATEVER THE INPUT: true; the input reads as it did. -/
def treeAsksSpec : ChangeSpec := { name := "treeAsks", fn := fun _ => fun
  | [d1, d2] => { results := [.lit (.bool true)], args := [d1, d2] }
  | _ => none }
def treeAsksRow : OpenClaim := { program := "ytpchljiiappmnaa", sum := "eeb4ac339ae21cbf9fab3c78360a560ea710414d1b8b23cdcabf9637a9b965c3", func := "pomace/pomacelaw03.TreeAsks", spec := "treeAsks", inPlace := ["internal/bytealg.CountString", "internal/bytealg.IndexByteString", "internal/bytealg.IndexString", "internal/abi.NoEscape"], unfollowed := true, recurses := true, named := ["internal/bytealg.MaxLen"], loops := true, apart := false }
def TreeAsksSaid : Prop := treeAsksRow.holds Try.pinned (OpenSpec.ofChange treeAsksSpec)

/-- ITS FALSE NEIGHBOUR: 'it returns false'. Refute it at one input. -/
def treeAsksWrong : ChangeSpec := { name := "treeAsks", fn := fun _ => fun
  | [d1, d2] => { results := [.lit (.bool false)], args := [d1, d2] }
  | _ => none }
def TreeAsksWrongFalsely : Prop := treeAsksRow.holds Try.pinned (OpenSpec.ofChange treeAsksWrong)

/-- 'pomacelaw03.TreeSame': WHATEVER THE INPUT: true; the input reads as it did. -/
def treeSameSpec : ChangeSpec := { name := "treeSame", fn := fun _ => fun
  | [d1, d2] => { results := [.lit (.bool true)], args := [d1, d2] }
  | _ => none }
def treeSameRow : OpenClaim := { program := "ytpchljiiappmnaa", sum := "eeb4ac339ae21cbf9fab3c78360a560ea710414d1b8b23cdcabf9637a9b965c3", func := "pomace/pomacelaw03.TreeSame", spec := "treeSame", inPlace := ["internal/bytealg.CountString", "internal/bytealg.IndexByteString", "internal/bytealg.IndexString", "internal/abi.NoEscape"], unfollowed := true, recurses := true, named := ["internal/bytealg.MaxLen"], loops := true, apart := false }
def TreeSameSaid : Prop := treeSameRow.holds Try.pinned (OpenSpec.ofChange treeSameSpec)

/-- ITS FALSE NEIGHBOUR: 'it returns false'. Refute it at one input. -/
def treeSameWrong : ChangeSpec := { name := "treeSame", fn := fun _ => fun
  | [d1, d2] => { results := [.lit (.bool false)], args := [d1, d2] }
  | _ => none }
def TreeSameWrongFalsely : Prop := treeSameRow.holds Try.pinned (OpenSpec.ofChange treeSameWrong)

/-- 'pomacelaw03.TreeBack': WHATEVER THE INPUT: true; the input reads as it did. -/
def treeBackSpec : ChangeSpec := { name := "treeBack", fn := fun _ => fun
  | [d] => { results := [.lit (.bool true)], args := [d] }
  | _ => none }
def treeBackRow : OpenClaim := { program := "ytpchljiiappmnaa", sum := "eeb4ac339ae21cbf9fab3c78360a560ea710414d1b8b23cdcabf9637a9b965c3", func := "pomace/pomacelaw03.TreeBack", spec := "treeBack", inPlace := ["internal/bytealg.CountString", "internal/bytealg.IndexByteString", "internal/bytealg.IndexString", "internal/abi.NoEscape"], unfollowed := true, recurses := true, named := ["internal/bytealg.MaxLen"], loops := true, apart := false }
def TreeBackSaid : Prop := treeBackRow.holds Try.pinned (OpenSpec.ofChange treeBackSpec)

/-- ITS FALSE NEIGHBOUR: 'it returns false'. Refute it at one input. -/
def treeBackWrong : ChangeSpec := { name := "treeBack", fn := fun _ => fun
  | [d] => { results := [.lit (.bool false)], args := [d] }
  | _ => none }
def TreeBackWrongFalsely : Prop := treeBackRow.holds Try.pinned (OpenSpec.ofChange treeBackWrong)

/-- 'pomacelaw03.TreeStays': WHATEVER THE INPUT: true; the input reads as it did. -/
def treeStaysSpec : ChangeSpec := { name := "treeStays", fn := fun _ => fun
  | [d] => { results := [.lit (.bool true)], args := [d] }
  | _ => none }
def treeStaysRow : OpenClaim := { program := "ytpchljiiappmnaa", sum := "eeb4ac339ae21cbf9fab3c78360a560ea710414d1b8b23cdcabf9637a9b965c3", func := "pomace/pomacelaw03.TreeStays", spec := "treeStays", inPlace := ["internal/bytealg.CountString", "internal/bytealg.IndexByteString", "internal/bytealg.IndexString", "internal/abi.NoEscape"], unfollowed := true, recurses := true, named := ["internal/bytealg.MaxLen"], apart := false }
def TreeStaysSaid : Prop := treeStaysRow.holds Try.pinned (OpenSpec.ofChange treeStaysSpec)

/-- ITS FALSE NEIGHBOUR: 'it returns false'. Refute it at one input. -/
def treeStaysWrong : ChangeSpec := { name := "treeStays", fn := fun _ => fun
  | [d] => { results := [.lit (.bool false)], args := [d] }
  | _ => none }
def TreeStaysWrongFalsely : Prop := treeStaysRow.holds Try.pinned (OpenSpec.ofChange treeStaysWrong)

/-- 'pomacelaw03.TreePrints': WHATEVER THE INPUT: true; the input reads as it did. -/
def treePrintsSpec : ChangeSpec := { name := "treePrints", fn := fun _ => fun
  | [d] => { results := [.lit (.bool true)], args := [d] }
  | _ => none }
def treePrintsRow : OpenClaim := { program := "ytpchljiiappmnaa", sum := "eeb4ac339ae21cbf9fab3c78360a560ea710414d1b8b23cdcabf9637a9b965c3", func := "pomace/pomacelaw03.TreePrints", spec := "treePrints", inPlace := ["internal/bytealg.CountString", "internal/bytealg.IndexByteString", "internal/bytealg.IndexString", "internal/abi.NoEscape"], unfollowed := true, recurses := true, named := ["internal/bytealg.MaxLen"], loops := true, apart := false }
def TreePrintsSaid : Prop := treePrintsRow.holds Try.pinned (OpenSpec.ofChange treePrintsSpec)

/-- ITS FALSE NEIGHBOUR: 'it returns false'. Refute it at one input. -/
def treePrintsWrong : ChangeSpec := { name := "treePrints", fn := fun _ => fun
  | [d] => { results := [.lit (.bool false)], args := [d] }
  | _ => none }
def TreePrintsWrongFalsely : Prop := treePrintsRow.holds Try.pinned (OpenSpec.ofChange treePrintsWrong)

/- THE SECOND FORM. 'bulk': how many values and letters a reading holds, each counted each time it is reached (what is shared counts as often as it is met; a slice's spare places count too). A statement '..UptoSaid' is the law's where the arguments, and the package variables that the reading takes, are together of bulk at most 1048576: NARROWER than '..Said'. Prove '..Said' where nothing that the law and all that it calls make is longer than what came in: it says more and counts as full. Else prove '..UptoSaid'. A law counts once. -/
mutual
def uptoBulk {H : Type} : DataW H → Nat
  | .lit (.string bytes) => bytes.length + 1
  | .lit _ => 1
  | .nil => 1
  | .ptr d => uptoBulk d + 1
  | .slice elems spare => uptoBulkAll elems + uptoBulkAll spare + 1
  | .agg parts => uptoBulkAll parts + 1
  | .iface _ d => uptoBulk d + 1
  | .map entries => uptoBulkEntries entries + 1
  | .held _ => 1
def uptoBulkAll {H : Type} : List (DataW H) → Nat
  | [] => 0
  | d :: r => uptoBulk d + uptoBulkAll r
def uptoBulkEntries {H : Type} : List (Lit × DataW H) → Nat
  | [] => 0
  | x :: r => uptoBulkEntry x + uptoBulkEntries r
def uptoBulkEntry {H : Type} : Lit × DataW H → Nat
  | (.string bytes, d) => bytes.length + uptoBulk d + 1
  | (_, d) => uptoBulk d + 1
 end
def uptoSmall : (H : Type) → List (DataW H) → Bool := fun _ ds => decide (uptoBulkAll ds ≤ 1048576)
def OpenSpec.upto (s : _root_.Go.ChangeSpec) : _root_.Go.OpenSpec := { _root_.Go.OpenSpec.ofChange s with cond := some uptoSmall }

/-- 'pomacelaw02.TokenAll', WHERE WHAT IT READS IS OF BULK AT MOST 1048576: true; the input reads as it did. -/
def tokenAllUptoRow : OpenClaim := { program := "ytpchljiiappmnaa", sum := "eeb4ac339ae21cbf9fab3c78360a560ea710414d1b8b23cdcabf9637a9b965c3", func := "pomace/pomacelaw02.TokenAll", spec := "tokenAll", inPlace := ["internal/bytealg.CountString", "internal/bytealg.IndexByteString", "internal/bytealg.IndexString", "internal/abi.NoEscape"], unfollowed := true, recurses := true, named := ["internal/bytealg.MaxLen"], apart := false, narrowed := true }
def TokenAllUptoSaid : Prop := tokenAllUptoRow.holds Try.pinned (OpenSpec.upto tokenAllSpec)

/-- 'pomacelaw02.TokenRises', WHERE WHAT IT READS IS OF BULK AT MOST 1048576: true; the input reads as it did. -/
def tokenRisesUptoRow : OpenClaim := { program := "ytpchljiiappmnaa", sum := "eeb4ac339ae21cbf9fab3c78360a560ea710414d1b8b23cdcabf9637a9b965c3", func := "pomace/pomacelaw02.TokenRises", spec := "tokenRises", inPlace := ["internal/bytealg.CountString", "internal/bytealg.IndexByteString", "internal/bytealg.IndexString", "internal/abi.NoEscape"], unfollowed := true, recurses := true, named := ["internal/bytealg.MaxLen"], apart := false, narrowed := true }
def TokenRisesUptoSaid : Prop := tokenRisesUptoRow.holds Try.pinned (OpenSpec.upto tokenRisesSpec)

/-- 'pomacelaw02.TokenStays', WHERE WHAT IT READS IS OF BULK AT MOST 1048576: true; the input reads as it did. -/
def tokenStaysUptoRow : OpenClaim := { program := "ytpchljiiappmnaa", sum := "eeb4ac339ae21cbf9fab3c78360a560ea710414d1b8b23cdcabf9637a9b965c3", func := "pomace/pomacelaw02.TokenStays", spec := "tokenStays", inPlace := ["internal/bytealg.CountString", "internal/bytealg.IndexByteString", "internal/bytealg.IndexString", "internal/abi.NoEscape"], unfollowed := true, recurses := true, named := ["internal/bytealg.MaxLen"], apart := false, narrowed := true }
def TokenStaysUptoSaid : Prop := tokenStaysUptoRow.holds Try.pinned (OpenSpec.upto tokenStaysSpec)

/-- 'pomacelaw02.TokenTags', WHERE WHAT IT READS IS OF BULK AT MOST 1048576: true; the input reads as it did. -/
def tokenTagsUptoRow : OpenClaim := { program := "ytpchljiiappmnaa", sum := "eeb4ac339ae21cbf9fab3c78360a560ea710414d1b8b23cdcabf9637a9b965c3", func := "pomace/pomacelaw02.TokenTags", spec := "tokenTags", inPlace := ["internal/bytealg.CountString", "internal/bytealg.IndexByteString", "internal/bytealg.IndexString", "internal/abi.NoEscape"], unfollowed := true, recurses := true, named := ["internal/bytealg.MaxLen"], apart := false, narrowed := true }
def TokenTagsUptoSaid : Prop := tokenTagsUptoRow.holds Try.pinned (OpenSpec.upto tokenTagsSpec)

/-- 'pomacelaw02.TokenPlain', WHERE WHAT IT READS IS OF BULK AT MOST 1048576: true; the input reads as it did. -/
def tokenPlainUptoRow : OpenClaim := { program := "ytpchljiiappmnaa", sum := "eeb4ac339ae21cbf9fab3c78360a560ea710414d1b8b23cdcabf9637a9b965c3", func := "pomace/pomacelaw02.TokenPlain", spec := "tokenPlain", inPlace := ["internal/bytealg.CountString", "internal/bytealg.IndexByteString", "internal/bytealg.IndexString", "internal/abi.NoEscape"], unfollowed := true, recurses := true, named := ["internal/bytealg.MaxLen"], apart := false, narrowed := true }
def TokenPlainUptoSaid : Prop := tokenPlainUptoRow.holds Try.pinned (OpenSpec.upto tokenPlainSpec)

/-- 'pomacelaw02.TokenLimits', WHERE WHAT IT READS IS OF BULK AT MOST 1048576: true; the input reads as it did. -/
def tokenLimitsUptoRow : OpenClaim := { program := "ytpchljiiappmnaa", sum := "eeb4ac339ae21cbf9fab3c78360a560ea710414d1b8b23cdcabf9637a9b965c3", func := "pomace/pomacelaw02.TokenLimits", spec := "tokenLimits", inPlace := ["internal/bytealg.CountString", "internal/bytealg.IndexByteString", "internal/bytealg.IndexString", "internal/abi.NoEscape"], unfollowed := true, recurses := true, named := ["internal/bytealg.MaxLen"], apart := false, narrowed := true }
def TokenLimitsUptoSaid : Prop := tokenLimitsUptoRow.holds Try.pinned (OpenSpec.upto tokenLimitsSpec)

/-- 'pomacelaw02.TokenPrints', WHERE WHAT IT READS IS OF BULK AT MOST 1048576: true; the input reads as it did. -/
def tokenPrintsUptoRow : OpenClaim := { program := "ytpchljiiappmnaa", sum := "eeb4ac339ae21cbf9fab3c78360a560ea710414d1b8b23cdcabf9637a9b965c3", func := "pomace/pomacelaw02.TokenPrints", spec := "tokenPrints", inPlace := ["internal/bytealg.CountString", "internal/bytealg.IndexByteString", "internal/bytealg.IndexString", "internal/abi.NoEscape"], unfollowed := true, recurses := true, named := ["internal/bytealg.MaxLen"], apart := false, narrowed := true }
def TokenPrintsUptoSaid : Prop := tokenPrintsUptoRow.holds Try.pinned (OpenSpec.upto tokenPrintsSpec)

/-- 'pomacelaw02.TokenBack', WHERE WHAT IT READS IS OF BULK AT MOST 1048576: true; the input reads as it did. -/
def tokenBackUptoRow : OpenClaim := { program := "ytpchljiiappmnaa", sum := "eeb4ac339ae21cbf9fab3c78360a560ea710414d1b8b23cdcabf9637a9b965c3", func := "pomace/pomacelaw02.TokenBack", spec := "tokenBack", inPlace := ["internal/bytealg.CountString", "internal/bytealg.IndexByteString", "internal/bytealg.IndexString", "internal/abi.NoEscape"], unfollowed := true, recurses := true, named := ["internal/bytealg.MaxLen"], apart := false, narrowed := true }
def TokenBackUptoSaid : Prop := tokenBackUptoRow.holds Try.pinned (OpenSpec.upto tokenBackSpec)

/-- 'pomacelaw03.TreeBuilds', WHERE WHAT IT READS IS OF BULK AT MOST 1048576: true; the input reads as it did. -/
def treeBuildsUptoRow : OpenClaim := { program := "ytpchljiiappmnaa", sum := "eeb4ac339ae21cbf9fab3c78360a560ea710414d1b8b23cdcabf9637a9b965c3", func := "pomace/pomacelaw03.TreeBuilds", spec := "treeBuilds", inPlace := ["internal/bytealg.CountString", "internal/bytealg.IndexByteString", "internal/bytealg.IndexString", "internal/abi.NoEscape"], unfollowed := true, recurses := true, named := ["internal/bytealg.MaxLen"], apart := false, narrowed := true }
def TreeBuildsUptoSaid : Prop := treeBuildsUptoRow.holds Try.pinned (OpenSpec.upto treeBuildsSpec)

/-- 'pomacelaw03.TreeNotes', WHERE WHAT IT READS IS OF BULK AT MOST 1048576: true; the input reads as it did. -/
def treeNotesUptoRow : OpenClaim := { program := "ytpchljiiappmnaa", sum := "eeb4ac339ae21cbf9fab3c78360a560ea710414d1b8b23cdcabf9637a9b965c3", func := "pomace/pomacelaw03.TreeNotes", spec := "treeNotes", inPlace := ["internal/bytealg.CountString", "internal/bytealg.IndexByteString", "internal/bytealg.IndexString", "internal/abi.NoEscape"], unfollowed := true, recurses := true, named := ["internal/bytealg.MaxLen"], loops := true, apart := false, narrowed := true }
def TreeNotesUptoSaid : Prop := treeNotesUptoRow.holds Try.pinned (OpenSpec.upto treeNotesSpec)

/-- 'pomacelaw03.TreeLimits', WHERE WHAT IT READS IS OF BULK AT MOST 1048576: true; the input reads as it did. -/
def treeLimitsUptoRow : OpenClaim := { program := "ytpchljiiappmnaa", sum := "eeb4ac339ae21cbf9fab3c78360a560ea710414d1b8b23cdcabf9637a9b965c3", func := "pomace/pomacelaw03.TreeLimits", spec := "treeLimits", inPlace := ["internal/bytealg.CountString", "internal/bytealg.IndexByteString", "internal/bytealg.IndexString", "internal/abi.NoEscape"], unfollowed := true, recurses := true, named := ["internal/bytealg.MaxLen"], apart := false, narrowed := true }
def TreeLimitsUptoSaid : Prop := treeLimitsUptoRow.holds Try.pinned (OpenSpec.upto treeLimitsSpec)

/-- 'pomacelaw03.TreeAsks', WHERE WHAT IT READS IS OF BULK AT MOST 1048576: true; the input reads as it did. -/
def treeAsksUptoRow : OpenClaim := { program := "ytpchljiiappmnaa", sum := "eeb4ac339ae21cbf9fab3c78360a560ea710414d1b8b23cdcabf9637a9b965c3", func := "pomace/pomacelaw03.TreeAsks", spec := "treeAsks", inPlace := ["internal/bytealg.CountString", "internal/bytealg.IndexByteString", "internal/bytealg.IndexString", "internal/abi.NoEscape"], unfollowed := true, recurses := true, named := ["internal/bytealg.MaxLen"], loops := true, apart := false, narrowed := true }
def TreeAsksUptoSaid : Prop := treeAsksUptoRow.holds Try.pinned (OpenSpec.upto treeAsksSpec)

/-- 'pomacelaw03.TreeSame', WHERE WHAT IT READS IS OF BULK AT MOST 1048576: true; the input reads as it did. -/
def treeSameUptoRow : OpenClaim := { program := "ytpchljiiappmnaa", sum := "eeb4ac339ae21cbf9fab3c78360a560ea710414d1b8b23cdcabf9637a9b965c3", func := "pomace/pomacelaw03.TreeSame", spec := "treeSame", inPlace := ["internal/bytealg.CountString", "internal/bytealg.IndexByteString", "internal/bytealg.IndexString", "internal/abi.NoEscape"], unfollowed := true, recurses := true, named := ["internal/bytealg.MaxLen"], loops := true, apart := false, narrowed := true }
def TreeSameUptoSaid : Prop := treeSameUptoRow.holds Try.pinned (OpenSpec.upto treeSameSpec)

/-- 'pomacelaw03.TreeBack', WHERE WHAT IT READS IS OF BULK AT MOST 1048576: true; the input reads as it did. -/
def treeBackUptoRow : OpenClaim := { program := "ytpchljiiappmnaa", sum := "eeb4ac339ae21cbf9fab3c78360a560ea710414d1b8b23cdcabf9637a9b965c3", func := "pomace/pomacelaw03.TreeBack", spec := "treeBack", inPlace := ["internal/bytealg.CountString", "internal/bytealg.IndexByteString", "internal/bytealg.IndexString", "internal/abi.NoEscape"], unfollowed := true, recurses := true, named := ["internal/bytealg.MaxLen"], loops := true, apart := false, narrowed := true }
def TreeBackUptoSaid : Prop := treeBackUptoRow.holds Try.pinned (OpenSpec.upto treeBackSpec)

/-- 'pomacelaw03.TreeStays', WHERE WHAT IT READS IS OF BULK AT MOST 1048576: true; the input reads as it did. -/
def treeStaysUptoRow : OpenClaim := { program := "ytpchljiiappmnaa", sum := "eeb4ac339ae21cbf9fab3c78360a560ea710414d1b8b23cdcabf9637a9b965c3", func := "pomace/pomacelaw03.TreeStays", spec := "treeStays", inPlace := ["internal/bytealg.CountString", "internal/bytealg.IndexByteString", "internal/bytealg.IndexString", "internal/abi.NoEscape"], unfollowed := true, recurses := true, named := ["internal/bytealg.MaxLen"], apart := false, narrowed := true }
def TreeStaysUptoSaid : Prop := treeStaysUptoRow.holds Try.pinned (OpenSpec.upto treeStaysSpec)

/-- 'pomacelaw03.TreePrints', WHERE WHAT IT READS IS OF BULK AT MOST 1048576: true; the input reads as it did. -/
def treePrintsUptoRow : OpenClaim := { program := "ytpchljiiappmnaa", sum := "eeb4ac339ae21cbf9fab3c78360a560ea710414d1b8b23cdcabf9637a9b965c3", func := "pomace/pomacelaw03.TreePrints", spec := "treePrints", inPlace := ["internal/bytealg.CountString", "internal/bytealg.IndexByteString", "internal/bytealg.IndexString", "internal/abi.NoEscape"], unfollowed := true, recurses := true, named := ["internal/bytealg.MaxLen"], loops := true, apart := false, narrowed := true }
def TreePrintsUptoSaid : Prop := treePrintsUptoRow.holds Try.pinned (OpenSpec.upto treePrintsSpec)

end Rows
end Go.Proofs.Ytpchljiiappmnaa
