/-
  No cell of these rows narrows 'for every input' (looked for: loops, veiled, ifaces, maps, wideKeys, modest, calm, conditions, laid).
  DERIVED. THE GIVEN ROWS OF THIS SEAT. 7 by the template 'for every input the law returns true; each argument reads behind the call as it read before'; 0 by the template 'total and deterministic' (their statements: YtembnbgpgenbfaaTotals.lean).
  GIVEN WITH THE SEED: the statements are not yours to turn. If you find one false, say at which input.
  Laid BY PROGRAM, IN A SANDBOX (cutbox-rows.mjs): the forced cells as the released guide's own fill.sh prints them over the translation 3c301eea13908ca5… (all of the seat's roots in one cut). By AI agents, Wed Nov 11 2026. No macro, syntax, notation, axiom, sorry.
-/
import Derived.Test.YtembnbgpgenbfaaChecked
import GoSem.Claim
import GoSem.ClaimJoined
import GoSem.ClaimMapViews
import Derived.JoinedTies
import Derived.KernelRfl
namespace Go.Proofs.Ytembnbgpgenbfaa
/- THE CELL 'sum', in the pinned program and in every row, IS THE sha256 OF THE DUMP (.gsa) THAT YtembnbgpgenbfaaProg.lean LOADS. Nothing in Lean hashes anything: it is a label: what it is worth is what the hold of that sum in a sandbox is worth. -/
noncomputable def Try.pinned : Pinned := { name := "ytembnbgpgenbfaa", sum := "3c301eea13908ca5b3b041e2cedd18f5cc7ae9f3c02b75738cee2660bc9b7837", checked := Try.checked }
namespace Rows
def none {H : Type} : Left H := { results := [], args := [] }

/-- 'fringelaw15.InterpTaps': WHATEVER THE INPUT: true; the input reads as it did. -/
def interpTapsSpec : ChangeSpec := { name := "interpTaps", fn := fun _ => fun
  | [d1, d2, d3] => { results := [.lit (.bool true)], args := [d1, d2, d3] }
  | _ => none }
def interpTapsRow : OpenClaim := { program := "ytembnbgpgenbfaa", sum := "3c301eea13908ca5b3b041e2cedd18f5cc7ae9f3c02b75738cee2660bc9b7837", func := "fringe/fringelaw15.InterpTaps", spec := "interpTaps", unfollowed := true, recurses := true, apart := false }
def InterpTapsSaid : Prop := interpTapsRow.holds Try.pinned (OpenSpec.ofChange interpTapsSpec)

/-- ITS FALSE NEIGHBOUR: 'it returns false'. Refute it at one input. -/
def interpTapsWrong : ChangeSpec := { name := "interpTaps", fn := fun _ => fun
  | [d1, d2, d3] => { results := [.lit (.bool false)], args := [d1, d2, d3] }
  | _ => none }
def InterpTapsWrongFalsely : Prop := interpTapsRow.holds Try.pinned (OpenSpec.ofChange interpTapsWrong)

/-- 'fringelaw15.InterpFilters': WHATEVER THE INPUT: true; the input reads as it did. -/
def interpFiltersSpec : ChangeSpec := { name := "interpFilters", fn := fun _ => fun
  | [d1, d2] => { results := [.lit (.bool true)], args := [d1, d2] }
  | _ => none }
def interpFiltersRow : OpenClaim := { program := "ytembnbgpgenbfaa", sum := "3c301eea13908ca5b3b041e2cedd18f5cc7ae9f3c02b75738cee2660bc9b7837", func := "fringe/fringelaw15.InterpFilters", spec := "interpFilters", inPlace := ["math/bits.Add64", "math/bits.Sub64"], unfollowed := true, recurses := true, named := ["math/bits.divideError", "math/bits.overflowError"], apart := false }
def InterpFiltersSaid : Prop := interpFiltersRow.holds Try.pinned (OpenSpec.ofChange interpFiltersSpec)

/-- ITS FALSE NEIGHBOUR: 'it returns false'. Refute it at one input. -/
def interpFiltersWrong : ChangeSpec := { name := "interpFilters", fn := fun _ => fun
  | [d1, d2] => { results := [.lit (.bool false)], args := [d1, d2] }
  | _ => none }
def InterpFiltersWrongFalsely : Prop := interpFiltersRow.holds Try.pinned (OpenSpec.ofChange interpFiltersWrong)

/-- 'fringelaw15.InterpReads': WHATEVER THE INPUT: true; the input reads as it did. -/
def interpReadsSpec : ChangeSpec := { name := "interpReads", fn := fun _ => fun
  | [d1, d2, d3] => { results := [.lit (.bool true)], args := [d1, d2, d3] }
  | _ => none }
def interpReadsRow : OpenClaim := { program := "ytembnbgpgenbfaa", sum := "3c301eea13908ca5b3b041e2cedd18f5cc7ae9f3c02b75738cee2660bc9b7837", func := "fringe/fringelaw15.InterpReads", spec := "interpReads", inPlace := ["math/bits.Add64", "math/bits.Sub64"], unfollowed := true, recurses := true, named := ["math/bits.divideError", "math/bits.overflowError"], apart := false }
def InterpReadsSaid : Prop := interpReadsRow.holds Try.pinned (OpenSpec.ofChange interpReadsSpec)

/-- ITS FALSE NEIGHBOUR: 'it returns false'. Refute it at one input. -/
def interpReadsWrong : ChangeSpec := { name := "interpReads", fn := fun _ => fun
  | [d1, d2, d3] => { results := [.lit (.bool false)], args := [d1, d2, d3] }
  | _ => none }
def InterpReadsWrongFalsely : Prop := interpReadsRow.holds Try.pinned (OpenSpec.ofChange interpReadsWrong)

/-- 'fringelaw15.InterpNames': WHATEVER THE INPUT: true; the input reads as it did. -/
def interpNamesSpec : ChangeSpec := { name := "interpNames", fn := fun _ => fun
  | [] => { results := [.lit (.bool true)], args := [] }
  | _ => none }
def interpNamesRow : OpenClaim := { program := "ytembnbgpgenbfaa", sum := "3c301eea13908ca5b3b041e2cedd18f5cc7ae9f3c02b75738cee2660bc9b7837", func := "fringe/fringelaw15.InterpNames", spec := "interpNames", inPlace := ["math/bits.Add64", "math/bits.Sub64"], unfollowed := true, recurses := true, named := ["math/bits.divideError", "math/bits.overflowError"], apart := false }
def InterpNamesSaid : Prop := interpNamesRow.holds Try.pinned (OpenSpec.ofChange interpNamesSpec)

/-- ITS FALSE NEIGHBOUR: 'it returns false'. Refute it at one input. -/
def interpNamesWrong : ChangeSpec := { name := "interpNames", fn := fun _ => fun
  | [] => { results := [.lit (.bool false)], args := [] }
  | _ => none }
def InterpNamesWrongFalsely : Prop := interpNamesRow.holds Try.pinned (OpenSpec.ofChange interpNamesWrong)

/-- 'fringelaw15.InterpWhole': WHATEVER THE INPUT: true; the input reads as it did. -/
def interpWholeSpec : ChangeSpec := { name := "interpWhole", fn := fun _ => fun
  | [d1, d2, d3] => { results := [.lit (.bool true)], args := [d1, d2, d3] }
  | _ => none }
def interpWholeRow : OpenClaim := { program := "ytembnbgpgenbfaa", sum := "3c301eea13908ca5b3b041e2cedd18f5cc7ae9f3c02b75738cee2660bc9b7837", func := "fringe/fringelaw15.InterpWhole", spec := "interpWhole", inPlace := ["math/bits.Add64", "math/bits.Sub64"], unfollowed := true, recurses := true, named := ["math/bits.divideError", "math/bits.overflowError"], apart := false }
def InterpWholeSaid : Prop := interpWholeRow.holds Try.pinned (OpenSpec.ofChange interpWholeSpec)

/-- ITS FALSE NEIGHBOUR: 'it returns false'. Refute it at one input. -/
def interpWholeWrong : ChangeSpec := { name := "interpWhole", fn := fun _ => fun
  | [d1, d2, d3] => { results := [.lit (.bool false)], args := [d1, d2, d3] }
  | _ => none }
def InterpWholeWrongFalsely : Prop := interpWholeRow.holds Try.pinned (OpenSpec.ofChange interpWholeWrong)

/-- 'fringelaw15.InterpSums': WHATEVER THE INPUT: true; the input reads as it did. -/
def interpSumsSpec : ChangeSpec := { name := "interpSums", fn := fun _ => fun
  | [d1, d2] => { results := [.lit (.bool true)], args := [d1, d2] }
  | _ => none }
def interpSumsRow : OpenClaim := { program := "ytembnbgpgenbfaa", sum := "3c301eea13908ca5b3b041e2cedd18f5cc7ae9f3c02b75738cee2660bc9b7837", func := "fringe/fringelaw15.InterpSums", spec := "interpSums", inPlace := ["math/bits.Add64", "math/bits.Sub64"], unfollowed := true, recurses := true, named := ["math/bits.divideError", "math/bits.overflowError"], apart := false }
def InterpSumsSaid : Prop := interpSumsRow.holds Try.pinned (OpenSpec.ofChange interpSumsSpec)

/-- ITS FALSE NEIGHBOUR: 'it returns false'. Refute it at one input. -/
def interpSumsWrong : ChangeSpec := { name := "interpSums", fn := fun _ => fun
  | [d1, d2] => { results := [.lit (.bool false)], args := [d1, d2] }
  | _ => none }
def InterpSumsWrongFalsely : Prop := interpSumsRow.holds Try.pinned (OpenSpec.ofChange interpSumsWrong)

/-- 'fringelaw15.InterpJoins': WHATEVER THE INPUT: true; the input reads as it did. -/
def interpJoinsSpec : ChangeSpec := { name := "interpJoins", fn := fun _ => fun
  | [d1, d2, d3, d4] => { results := [.lit (.bool true)], args := [d1, d2, d3, d4] }
  | _ => none }
def interpJoinsRow : OpenClaim := { program := "ytembnbgpgenbfaa", sum := "3c301eea13908ca5b3b041e2cedd18f5cc7ae9f3c02b75738cee2660bc9b7837", func := "fringe/fringelaw15.InterpJoins", spec := "interpJoins", inPlace := ["math/bits.Add64", "math/bits.Sub64"], unfollowed := true, recurses := true, named := ["math/bits.divideError", "math/bits.overflowError"], apart := false }
def InterpJoinsSaid : Prop := interpJoinsRow.holds Try.pinned (OpenSpec.ofChange interpJoinsSpec)

/-- ITS FALSE NEIGHBOUR: 'it returns false'. Refute it at one input. -/
def interpJoinsWrong : ChangeSpec := { name := "interpJoins", fn := fun _ => fun
  | [d1, d2, d3, d4] => { results := [.lit (.bool false)], args := [d1, d2, d3, d4] }
  | _ => none }
def InterpJoinsWrongFalsely : Prop := interpJoinsRow.holds Try.pinned (OpenSpec.ofChange interpJoinsWrong)

/- THE SECOND FORM. 'bulk': how many values and letters a reading holds, each counted each time it is reached (what is shared counts as often as it is met; a slice's spare places count too). A statement '..UptoSaid' is the law's where the arguments, and the package variables that the reading takes, are together of bulk at most 1048576: NARROWER than '..Said'. Prove '..Said' where nothing that the law and all that it calls make is longer than what came in: it says more and counts as full. Else prove '..UptoSaid'. A law counts once. -/
mutual
def uptoBulk {H : Type} : DataW H → Nat
  | .lit (.string bytes) => bytes.length + 1
  | .lit _ => 1
  | .nil => 1
  | .ptr d => uptoBulk d + 1
  | .slice elems spare => uptoBulkAll elems + uptoBulkAll spare + 1
  | .agg parts => uptoBulkAll parts + 1
  | .iface _ d => uptoBulk d + 1
  | .map entries => uptoBulkEntries entries + 1
  | .held _ => 1
def uptoBulkAll {H : Type} : List (DataW H) → Nat
  | [] => 0
  | d :: r => uptoBulk d + uptoBulkAll r
def uptoBulkEntries {H : Type} : List (Lit × DataW H) → Nat
  | [] => 0
  | x :: r => uptoBulkEntry x + uptoBulkEntries r
def uptoBulkEntry {H : Type} : Lit × DataW H → Nat
  | (.string bytes, d) => bytes.length + uptoBulk d + 1
  | (_, d) => uptoBulk d + 1
 end
def uptoSmall : (H : Type) → List (DataW H) → Bool := fun _ ds => decide (uptoBulkAll ds ≤ 1048576)
def OpenSpec.upto (s : _root_.Go.ChangeSpec) : _root_.Go.OpenSpec := { _root_.Go.OpenSpec.ofChange s with cond := some uptoSmall }

/-- 'fringelaw15.InterpTaps', WHERE WHAT IT READS IS OF BULK AT MOST 1048576: true; the input reads as it did. -/
def interpTapsUptoRow : OpenClaim := { program := "ytembnbgpgenbfaa", sum := "3c301eea13908ca5b3b041e2cedd18f5cc7ae9f3c02b75738cee2660bc9b7837", func := "fringe/fringelaw15.InterpTaps", spec := "interpTaps", unfollowed := true, recurses := true, apart := false, narrowed := true }
def InterpTapsUptoSaid : Prop := interpTapsUptoRow.holds Try.pinned (OpenSpec.upto interpTapsSpec)

/-- 'fringelaw15.InterpFilters', WHERE WHAT IT READS IS OF BULK AT MOST 1048576: true; the input reads as it did. -/
def interpFiltersUptoRow : OpenClaim := { program := "ytembnbgpgenbfaa", sum := "3c301eea13908ca5b3b041e2cedd18f5cc7ae9f3c02b75738cee2660bc9b7837", func := "fringe/fringelaw15.InterpFilters", spec := "interpFilters", inPlace := ["math/bits.Add64", "math/bits.Sub64"], unfollowed := true, recurses := true, named := ["math/bits.divideError", "math/bits.overflowError"], apart := false, narrowed := true }
def InterpFiltersUptoSaid : Prop := interpFiltersUptoRow.holds Try.pinned (OpenSpec.upto interpFiltersSpec)

/-- 'fringelaw15.InterpReads', WHERE WHAT IT READS IS OF BULK AT MOST 1048576: true; the input reads as it did. -/
def interpReadsUptoRow : OpenClaim := { program := "ytembnbgpgenbfaa", sum := "3c301eea13908ca5b3b041e2cedd18f5cc7ae9f3c02b75738cee2660bc9b7837", func := "fringe/fringelaw15.InterpReads", spec := "interpReads", inPlace := ["math/bits.Add64", "math/bits.Sub64"], unfollowed := true, recurses := true, named := ["math/bits.divideError", "math/bits.overflowError"], apart := false, narrowed := true }
def InterpReadsUptoSaid : Prop := interpReadsUptoRow.holds Try.pinned (OpenSpec.upto interpReadsSpec)

/-- 'fringelaw15.InterpNames', WHERE WHAT IT READS IS OF BULK AT MOST 1048576: true; the input reads as it did. -/
def interpNamesUptoRow : OpenClaim := { program := "ytembnbgpgenbfaa", sum := "3c301eea13908ca5b3b041e2cedd18f5cc7ae9f3c02b75738cee2660bc9b7837", func := "fringe/fringelaw15.InterpNames", spec := "interpNames", inPlace := ["math/bits.Add64", "math/bits.Sub64"], unfollowed := true, recurses := true, named := ["math/bits.divideError", "math/bits.overflowError"], apart := false, narrowed := true }
def InterpNamesUptoSaid : Prop := interpNamesUptoRow.holds Try.pinned (OpenSpec.upto interpNamesSpec)

/-- 'fringelaw15.InterpWhole', WHERE WHAT IT READS IS OF BULK AT MOST 1048576: true; the input reads as it did. -/
def interpWholeUptoRow : OpenClaim := { program := "ytembnbgpgenbfaa", sum := "3c301eea13908ca5b3b041e2cedd18f5cc7ae9f3c02b75738cee2660bc9b7837", func := "fringe/fringelaw15.InterpWhole", spec := "interpWhole", inPlace := ["math/bits.Add64", "math/bits.Sub64"], unfollowed := true, recurses := true, named := ["math/bits.divideError", "math/bits.overflowError"], apart := false, narrowed := true }
def InterpWholeUptoSaid : Prop := interpWholeUptoRow.holds Try.pinned (OpenSpec.upto interpWholeSpec)

/-- 'fringelaw15.InterpSums', WHERE WHAT IT READS IS OF BULK AT MOST 1048576: true; the input reads as it did. -/
def interpSumsUptoRow : OpenClaim := { program := "ytembnbgpgenbfaa", sum := "3c301eea13908ca5b3b041e2cedd18f5cc7ae9f3c02b75738cee2660bc9b7837", func := "fringe/fringelaw15.InterpSums", spec := "interpSums", inPlace := ["math/bits.Add64", "math/bits.Sub64"], unfollowed := true, recurses := true, named := ["math/bits.divideError", "math/bits.overflowError"], apart := false, narrowed := true }
def InterpSumsUptoSaid : Prop := interpSumsUptoRow.holds Try.pinned (OpenSpec.upto interpSumsSpec)

/-- 'fringelaw15.InterpJoins', WHERE WHAT IT READS IS OF BULK AT MOST 1048576: true; the input reads as it did. -/
def interpJoinsUptoRow : OpenClaim := { program := "ytembnbgpgenbfaa", sum := "3c301eea13908ca5b3b041e2cedd18f5cc7ae9f3c02b75738cee2660bc9b7837", func := "fringe/fringelaw15.InterpJoins", spec := "interpJoins", inPlace := ["math/bits.Add64", "math/bits.Sub64"], unfollowed := true, recurses := true, named := ["math/bits.divideError", "math/bits.overflowError"], apart := false, narrowed := true }
def InterpJoinsUptoSaid : Prop := interpJoinsUptoRow.holds Try.pinned (OpenSpec.upto interpJoinsSpec)

end Rows
end Go.Proofs.Ytembnbgpgenbfaa
