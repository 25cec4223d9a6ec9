/-
  No cell of these rows narrows 'for every input' (looked for: loops, veiled, ifaces, maps, wideKeys, modest, calm, conditions, laid).
  DERIVED. THE GIVEN ROWS OF THIS SEAT. 4 by the template 'for every input the law returns true; each argument reads behind the call as it read before'; 0 by the template 'total and deterministic' (their statements: YtpfmnmcpffajeaaTotals.lean).
  GIVEN WITH THE SEED: the statements are not yours to turn. If you find one false, say at which input.
  Laid BY PROGRAM, IN A SANDBOX (cutbox-rows.mjs): the forced cells as the released guide's own fill.sh prints them over the translation eba7bddd63eb9a72… (all of the seat's roots in one cut). By AI agents, Wed Nov 11 2026. No macro, syntax, notation, axiom, sorry.
-/
import Derived.Test.YtpfmnmcpffajeaaChecked
import GoSem.Claim
import GoSem.ClaimJoined
import GoSem.ClaimMapViews
import Derived.JoinedTies
import Derived.KernelRfl
namespace Go.Proofs.Ytpfmnmcpffajeaa
/- THE CELL 'sum', in the pinned program and in every row, IS THE sha256 OF THE DUMP (.gsa) THAT YtpfmnmcpffajeaaProg.lean LOADS. Nothing in Lean hashes anything: it is a label: what it is worth is what the hold of that sum in a sandbox is worth. -/
noncomputable def Try.pinned : Pinned := { name := "ytpfmnmcpffajeaa", sum := "eba7bddd63eb9a721559e40ca6acdf5a970ed906216447bc2ab444ecb0008b38", checked := Try.checked }
namespace Rows
def none {H : Type} : Left H := { results := [], args := [] }

/-- 'fringelaw02.VecCross': WHATEVER THE INPUT: true; the input reads as it did. -/
def vecCrossSpec : ChangeSpec := { name := "vecCross", fn := fun _ => fun
  | [d1, d2, d3] => { results := [.lit (.bool true)], args := [d1, d2, d3] }
  | _ => none }
def vecCrossRow : OpenClaim := { program := "ytpfmnmcpffajeaa", sum := "eba7bddd63eb9a721559e40ca6acdf5a970ed906216447bc2ab444ecb0008b38", func := "fringe/fringelaw02.VecCross", spec := "vecCross", inPlace := ["math/bits.Add64", "math/bits.Sub64"], unfollowed := true, recurses := true, named := ["math/bits.divideError", "math/bits.overflowError"], apart := false }
def VecCrossSaid : Prop := vecCrossRow.holds Try.pinned (OpenSpec.ofChange vecCrossSpec)

/-- ITS FALSE NEIGHBOUR: 'it returns false'. Refute it at one input. -/
def vecCrossWrong : ChangeSpec := { name := "vecCross", fn := fun _ => fun
  | [d1, d2, d3] => { results := [.lit (.bool false)], args := [d1, d2, d3] }
  | _ => none }
def VecCrossWrongFalsely : Prop := vecCrossRow.holds Try.pinned (OpenSpec.ofChange vecCrossWrong)

/-- 'fringelaw02.VecGroup': WHATEVER THE INPUT: true; the input reads as it did. -/
def vecGroupSpec : ChangeSpec := { name := "vecGroup", fn := fun _ => fun
  | [d1, d2, d3, d4, d5] => { results := [.lit (.bool true)], args := [d1, d2, d3, d4, d5] }
  | _ => none }
def vecGroupRow : OpenClaim := { program := "ytpfmnmcpffajeaa", sum := "eba7bddd63eb9a721559e40ca6acdf5a970ed906216447bc2ab444ecb0008b38", func := "fringe/fringelaw02.VecGroup", spec := "vecGroup", inPlace := ["math/bits.Add64", "math/bits.Sub64"], unfollowed := true, recurses := true, named := ["math/bits.divideError", "math/bits.overflowError"], apart := false }
def VecGroupSaid : Prop := vecGroupRow.holds Try.pinned (OpenSpec.ofChange vecGroupSpec)

/-- ITS FALSE NEIGHBOUR: 'it returns false'. Refute it at one input. -/
def vecGroupWrong : ChangeSpec := { name := "vecGroup", fn := fun _ => fun
  | [d1, d2, d3, d4, d5] => { results := [.lit (.bool false)], args := [d1, d2, d3, d4, d5] }
  | _ => none }
def VecGroupWrongFalsely : Prop := vecGroupRow.holds Try.pinned (OpenSpec.ofChange vecGroupWrong)

/-- 'fringelaw02.VecKept': WHATEVER THE INPUT: true; the input reads as it did. -/
def vecKeptSpec : ChangeSpec := { name := "vecKept", fn := fun _ => fun
  | [d1, d2, d3, d4] => { results := [.lit (.bool true)], args := [d1, d2, d3, d4] }
  | _ => none }
def vecKeptRow : OpenClaim := { program := "ytpfmnmcpffajeaa", sum := "eba7bddd63eb9a721559e40ca6acdf5a970ed906216447bc2ab444ecb0008b38", func := "fringe/fringelaw02.VecKept", spec := "vecKept", inPlace := ["math/bits.Add64", "math/bits.Sub64"], unfollowed := true, recurses := true, named := ["math/bits.divideError", "math/bits.overflowError"], apart := false }
def VecKeptSaid : Prop := vecKeptRow.holds Try.pinned (OpenSpec.ofChange vecKeptSpec)

/-- ITS FALSE NEIGHBOUR: 'it returns false'. Refute it at one input. -/
def vecKeptWrong : ChangeSpec := { name := "vecKept", fn := fun _ => fun
  | [d1, d2, d3, d4] => { results := [.lit (.bool false)], args := [d1, d2, d3, d4] }
  | _ => none }
def VecKeptWrongFalsely : Prop := vecKeptRow.holds Try.pinned (OpenSpec.ofChange vecKeptWrong)

/-- 'fringelaw02.VecNames': WHATEVER THE INPUT: true; the input reads as it did. -/
def vecNamesSpec : ChangeSpec := { name := "vecNames", fn := fun _ => fun
  | [] => { results := [.lit (.bool true)], args := [] }
  | _ => none }
def vecNamesRow : OpenClaim := { program := "ytpfmnmcpffajeaa", sum := "eba7bddd63eb9a721559e40ca6acdf5a970ed906216447bc2ab444ecb0008b38", func := "fringe/fringelaw02.VecNames", spec := "vecNames", inPlace := ["math/bits.Add64", "math/bits.Sub64"], unfollowed := true, recurses := true, named := ["math/bits.divideError", "math/bits.overflowError"], apart := false }
def VecNamesSaid : Prop := vecNamesRow.holds Try.pinned (OpenSpec.ofChange vecNamesSpec)

/-- ITS FALSE NEIGHBOUR: 'it returns false'. Refute it at one input. -/
def vecNamesWrong : ChangeSpec := { name := "vecNames", fn := fun _ => fun
  | [] => { results := [.lit (.bool false)], args := [] }
  | _ => none }
def VecNamesWrongFalsely : Prop := vecNamesRow.holds Try.pinned (OpenSpec.ofChange vecNamesWrong)

/- THE SECOND FORM. 'bulk': how many values and letters a reading holds, each counted each time it is reached (what is shared counts as often as it is met; a slice's spare places count too). A statement '..UptoSaid' is the law's where the arguments, and the package variables that the reading takes, are together of bulk at most 1048576: NARROWER than '..Said'. Prove '..Said' where nothing that the law and all that it calls make is longer than what came in: it says more and counts as full. Else prove '..UptoSaid'. A law counts once. -/
mutual
def uptoBulk {H : Type} : DataW H → Nat
  | .lit (.string bytes) => bytes.length + 1
  | .lit _ => 1
  | .nil => 1
  | .ptr d => uptoBulk d + 1
  | .slice elems spare => uptoBulkAll elems + uptoBulkAll spare + 1
  | .agg parts => uptoBulkAll parts + 1
  | .iface _ d => uptoBulk d + 1
  | .map entries => uptoBulkEntries entries + 1
  | .held _ => 1
def uptoBulkAll {H : Type} : List (DataW H) → Nat
  | [] => 0
  | d :: r => uptoBulk d + uptoBulkAll r
def uptoBulkEntries {H : Type} : List (Lit × DataW H) → Nat
  | [] => 0
  | x :: r => uptoBulkEntry x + uptoBulkEntries r
def uptoBulkEntry {H : Type} : Lit × DataW H → Nat
  | (.string bytes, d) => bytes.length + uptoBulk d + 1
  | (_, d) => uptoBulk d + 1
 end
def uptoSmall : (H : Type) → List (DataW H) → Bool := fun _ ds => decide (uptoBulkAll ds ≤ 1048576)
def OpenSpec.upto (s : _root_.Go.ChangeSpec) : _root_.Go.OpenSpec := { _root_.Go.OpenSpec.ofChange s with cond := some uptoSmall }

/-- 'fringelaw02.VecCross', WHERE WHAT IT READS IS OF BULK AT MOST 1048576: true; the input reads as it did. -/
def vecCrossUptoRow : OpenClaim := { program := "ytpfmnmcpffajeaa", sum := "eba7bddd63eb9a721559e40ca6acdf5a970ed906216447bc2ab444ecb0008b38", func := "fringe/fringelaw02.VecCross", spec := "vecCross", inPlace := ["math/bits.Add64", "math/bits.Sub64"], unfollowed := true, recurses := true, named := ["math/bits.divideError", "math/bits.overflowError"], apart := false, narrowed := true }
def VecCrossUptoSaid : Prop := vecCrossUptoRow.holds Try.pinned (OpenSpec.upto vecCrossSpec)

/-- 'fringelaw02.VecGroup', WHERE WHAT IT READS IS OF BULK AT MOST 1048576: true; the input reads as it did. -/
def vecGroupUptoRow : OpenClaim := { program := "ytpfmnmcpffajeaa", sum := "eba7bddd63eb9a721559e40ca6acdf5a970ed906216447bc2ab444ecb0008b38", func := "fringe/fringelaw02.VecGroup", spec := "vecGroup", inPlace := ["math/bits.Add64", "math/bits.Sub64"], unfollowed := true, recurses := true, named := ["math/bits.divideError", "math/bits.overflowError"], apart := false, narrowed := true }
def VecGroupUptoSaid : Prop := vecGroupUptoRow.holds Try.pinned (OpenSpec.upto vecGroupSpec)

/-- 'fringelaw02.VecKept', WHERE WHAT IT READS IS OF BULK AT MOST 1048576: true; the input reads as it did. -/
def vecKeptUptoRow : OpenClaim := { program := "ytpfmnmcpffajeaa", sum := "eba7bddd63eb9a721559e40ca6acdf5a970ed906216447bc2ab444ecb0008b38", func := "fringe/fringelaw02.VecKept", spec := "vecKept", inPlace := ["math/bits.Add64", "math/bits.Sub64"], unfollowed := true, recurses := true, named := ["math/bits.divideError", "math/bits.overflowError"], apart := false, narrowed := true }
def VecKeptUptoSaid : Prop := vecKeptUptoRow.holds Try.pinned (OpenSpec.upto vecKeptSpec)

/-- 'fringelaw02.VecNames', WHERE WHAT IT READS IS OF BULK AT MOST 1048576: true; the input reads as it did. -/
def vecNamesUptoRow : OpenClaim := { program := "ytpfmnmcpffajeaa", sum := "eba7bddd63eb9a721559e40ca6acdf5a970ed906216447bc2ab444ecb0008b38", func := "fringe/fringelaw02.VecNames", spec := "vecNames", inPlace := ["math/bits.Add64", "math/bits.Sub64"], unfollowed := true, recurses := true, named := ["math/bits.divideError", "math/bits.overflowError"], apart := false, narrowed := true }
def VecNamesUptoSaid : Prop := vecNamesUptoRow.holds Try.pinned (OpenSpec.upto vecNamesSpec)

end Rows
end Go.Proofs.Ytpfmnmcpffajeaa
