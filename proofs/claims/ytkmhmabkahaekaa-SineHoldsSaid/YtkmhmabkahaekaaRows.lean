/-
  No cell of these rows narrows 'for every input' (looked for: loops, veiled, ifaces, maps, wideKeys, modest, calm, conditions, laid).
  DERIVED. THE GIVEN ROWS OF THIS SEAT. 7 by the template 'for every input the law returns true; each argument reads behind the call as it read before'; 0 by the template 'total and deterministic' (their statements: YtkmhmabkahaekaaTotals.lean).
  GIVEN WITH THE SEED: the statements are not yours to turn. If you find one false, say at which input.
  Laid BY PROGRAM, IN A SANDBOX (cutbox-rows.mjs): the forced cells as the released guide's own fill.sh prints them over the translation a42a8638a039f6a2… (all of the seat's roots in one cut). By AI agents, Wed Nov 11 2026. No macro, syntax, notation, axiom, sorry.
-/
import Derived.Test.YtkmhmabkahaekaaChecked
import GoSem.Claim
import GoSem.ClaimJoined
import GoSem.ClaimMapViews
import Derived.JoinedTies
import Derived.KernelRfl
namespace Go.Proofs.Ytkmhmabkahaekaa
/- THE CELL 'sum', in the pinned program and in every row, IS THE sha256 OF THE DUMP (.gsa) THAT YtkmhmabkahaekaaProg.lean LOADS. Nothing in Lean hashes anything: it is a label: what it is worth is what the hold of that sum in a sandbox is worth. -/
noncomputable def Try.pinned : Pinned := { name := "ytkmhmabkahaekaa", sum := "a42a8638a039f6a2d531b734f5d7f8ff9792e21da42236f8c8d6a1228b18360b", checked := Try.checked }
namespace Rows
def none {H : Type} : Left H := { results := [], args := [] }

/-- 'fringelaw09.DelaySplits': WHATEVER THE INPUT: true; the input reads as it did. -/
def delaySplitsSpec : ChangeSpec := { name := "delaySplits", fn := fun _ => fun
  | [d1, d2] => { results := [.lit (.bool true)], args := [d1, d2] }
  | _ => none }
def delaySplitsRow : OpenClaim := { program := "ytkmhmabkahaekaa", sum := "a42a8638a039f6a2d531b734f5d7f8ff9792e21da42236f8c8d6a1228b18360b", func := "fringe/fringelaw09.DelaySplits", spec := "delaySplits", apart := false }
def DelaySplitsSaid : Prop := delaySplitsRow.holds Try.pinned (OpenSpec.ofChange delaySplitsSpec)

/-- ITS FALSE NEIGHBOUR: 'it returns false'. Refute it at one input. -/
def delaySplitsWrong : ChangeSpec := { name := "delaySplits", fn := fun _ => fun
  | [d1, d2] => { results := [.lit (.bool false)], args := [d1, d2] }
  | _ => none }
def DelaySplitsWrongFalsely : Prop := delaySplitsRow.holds Try.pinned (OpenSpec.ofChange delaySplitsWrong)

/-- 'fringelaw05.SineTables': WHATEVER THE INPUT: true; the input reads as it did. -/
def sineTablesSpec : ChangeSpec := { name := "sineTables", fn := fun _ => fun
  | [d1, d2] => { results := [.lit (.bool true)], args := [d1, d2] }
  | _ => none }
def sineTablesRow : OpenClaim := { program := "ytkmhmabkahaekaa", sum := "a42a8638a039f6a2d531b734f5d7f8ff9792e21da42236f8c8d6a1228b18360b", func := "fringe/fringelaw05.SineTables", spec := "sineTables", named := ["math/bits.divideError", "math/bits.overflowError"], apart := false }
def SineTablesSaid : Prop := sineTablesRow.holds Try.pinned (OpenSpec.ofChange sineTablesSpec)

/-- ITS FALSE NEIGHBOUR: 'it returns false'. Refute it at one input. -/
def sineTablesWrong : ChangeSpec := { name := "sineTables", fn := fun _ => fun
  | [d1, d2] => { results := [.lit (.bool false)], args := [d1, d2] }
  | _ => none }
def SineTablesWrongFalsely : Prop := sineTablesRow.holds Try.pinned (OpenSpec.ofChange sineTablesWrong)

/-- 'fringelaw05.SineCircle': WHATEVER THE INPUT: true; the input reads as it did. -/
def sineCircleSpec : ChangeSpec := { name := "sineCircle", fn := fun _ => fun
  | [d1, d2] => { results := [.lit (.bool true)], args := [d1, d2] }
  | _ => none }
def sineCircleRow : OpenClaim := { program := "ytkmhmabkahaekaa", sum := "a42a8638a039f6a2d531b734f5d7f8ff9792e21da42236f8c8d6a1228b18360b", func := "fringe/fringelaw05.SineCircle", spec := "sineCircle", named := ["math/bits.divideError", "math/bits.overflowError"], apart := false }
def SineCircleSaid : Prop := sineCircleRow.holds Try.pinned (OpenSpec.ofChange sineCircleSpec)

/-- ITS FALSE NEIGHBOUR: 'it returns false'. Refute it at one input. -/
def sineCircleWrong : ChangeSpec := { name := "sineCircle", fn := fun _ => fun
  | [d1, d2] => { results := [.lit (.bool false)], args := [d1, d2] }
  | _ => none }
def SineCircleWrongFalsely : Prop := sineCircleRow.holds Try.pinned (OpenSpec.ofChange sineCircleWrong)

/-- 'fringelaw05.SineSums': WHATEVER THE INPUT: true; the input reads as it did. -/
def sineSumsSpec : ChangeSpec := { name := "sineSums", fn := fun _ => fun
  | [d1, d2, d3] => { results := [.lit (.bool true)], args := [d1, d2, d3] }
  | _ => none }
def sineSumsRow : OpenClaim := { program := "ytkmhmabkahaekaa", sum := "a42a8638a039f6a2d531b734f5d7f8ff9792e21da42236f8c8d6a1228b18360b", func := "fringe/fringelaw05.SineSums", spec := "sineSums", named := ["math/bits.divideError", "math/bits.overflowError"], apart := false }
def SineSumsSaid : Prop := sineSumsRow.holds Try.pinned (OpenSpec.ofChange sineSumsSpec)

/-- ITS FALSE NEIGHBOUR: 'it returns false'. Refute it at one input. -/
def sineSumsWrong : ChangeSpec := { name := "sineSums", fn := fun _ => fun
  | [d1, d2, d3] => { results := [.lit (.bool false)], args := [d1, d2, d3] }
  | _ => none }
def SineSumsWrongFalsely : Prop := sineSumsRow.holds Try.pinned (OpenSpec.ofChange sineSumsWrong)

/-- 'fringelaw05.SineWorks': WHATEVER THE INPUT: true; the input reads as it did. -/
def sineWorksSpec : ChangeSpec := { name := "sineWorks", fn := fun _ => fun
  | [d1, d2, d3] => { results := [.lit (.bool true)], args := [d1, d2, d3] }
  | _ => none }
def sineWorksRow : OpenClaim := { program := "ytkmhmabkahaekaa", sum := "a42a8638a039f6a2d531b734f5d7f8ff9792e21da42236f8c8d6a1228b18360b", func := "fringe/fringelaw05.SineWorks", spec := "sineWorks", named := ["math/bits.divideError", "math/bits.overflowError"], apart := false }
def SineWorksSaid : Prop := sineWorksRow.holds Try.pinned (OpenSpec.ofChange sineWorksSpec)

/-- ITS FALSE NEIGHBOUR: 'it returns false'. Refute it at one input. -/
def sineWorksWrong : ChangeSpec := { name := "sineWorks", fn := fun _ => fun
  | [d1, d2, d3] => { results := [.lit (.bool false)], args := [d1, d2, d3] }
  | _ => none }
def SineWorksWrongFalsely : Prop := sineWorksRow.holds Try.pinned (OpenSpec.ofChange sineWorksWrong)

/-- 'fringelaw05.SineNames': WHATEVER THE INPUT: true; the input reads as it did. -/
def sineNamesSpec : ChangeSpec := { name := "sineNames", fn := fun _ => fun
  | [] => { results := [.lit (.bool true)], args := [] }
  | _ => none }
def sineNamesRow : OpenClaim := { program := "ytkmhmabkahaekaa", sum := "a42a8638a039f6a2d531b734f5d7f8ff9792e21da42236f8c8d6a1228b18360b", func := "fringe/fringelaw05.SineNames", spec := "sineNames", named := ["math/bits.divideError", "math/bits.overflowError"], apart := false }
def SineNamesSaid : Prop := sineNamesRow.holds Try.pinned (OpenSpec.ofChange sineNamesSpec)

/-- ITS FALSE NEIGHBOUR: 'it returns false'. Refute it at one input. -/
def sineNamesWrong : ChangeSpec := { name := "sineNames", fn := fun _ => fun
  | [] => { results := [.lit (.bool false)], args := [] }
  | _ => none }
def SineNamesWrongFalsely : Prop := sineNamesRow.holds Try.pinned (OpenSpec.ofChange sineNamesWrong)

/-- 'fringelaw05.SineHolds': WHATEVER THE INPUT: true; the input reads as it did. -/
def sineHoldsSpec : ChangeSpec := { name := "sineHolds", fn := fun _ => fun
  | [d1, d2, d3, d4] => { results := [.lit (.bool true)], args := [d1, d2, d3, d4] }
  | _ => none }
def sineHoldsRow : OpenClaim := { program := "ytkmhmabkahaekaa", sum := "a42a8638a039f6a2d531b734f5d7f8ff9792e21da42236f8c8d6a1228b18360b", func := "fringe/fringelaw05.SineHolds", spec := "sineHolds", named := ["math/bits.divideError", "math/bits.overflowError"], apart := false }
def SineHoldsSaid : Prop := sineHoldsRow.holds Try.pinned (OpenSpec.ofChange sineHoldsSpec)

/-- ITS FALSE NEIGHBOUR: 'it returns false'. Refute it at one input. -/
def sineHoldsWrong : ChangeSpec := { name := "sineHolds", fn := fun _ => fun
  | [d1, d2, d3, d4] => { results := [.lit (.bool false)], args := [d1, d2, d3, d4] }
  | _ => none }
def SineHoldsWrongFalsely : Prop := sineHoldsRow.holds Try.pinned (OpenSpec.ofChange sineHoldsWrong)

/- THE SECOND FORM. 'bulk': how many values and letters a reading holds, each counted each time it is reached (what is shared counts as often as it is met; a slice's spare places count too). A statement '..UptoSaid' is the law's where the arguments, and the package variables that the reading takes, are together of bulk at most 1048576: NARROWER than '..Said'. Prove '..Said' where nothing that the law and all that it calls make is longer than what came in: it says more and counts as full. Else prove '..UptoSaid'. A law counts once. -/
mutual
def uptoBulk {H : Type} : DataW H → Nat
  | .lit (.string bytes) => bytes.length + 1
  | .lit _ => 1
  | .nil => 1
  | .ptr d => uptoBulk d + 1
  | .slice elems spare => uptoBulkAll elems + uptoBulkAll spare + 1
  | .agg parts => uptoBulkAll parts + 1
  | .iface _ d => uptoBulk d + 1
  | .map entries => uptoBulkEntries entries + 1
  | .held _ => 1
def uptoBulkAll {H : Type} : List (DataW H) → Nat
  | [] => 0
  | d :: r => uptoBulk d + uptoBulkAll r
def uptoBulkEntries {H : Type} : List (Lit × DataW H) → Nat
  | [] => 0
  | x :: r => uptoBulkEntry x + uptoBulkEntries r
def uptoBulkEntry {H : Type} : Lit × DataW H → Nat
  | (.string bytes, d) => bytes.length + uptoBulk d + 1
  | (_, d) => uptoBulk d + 1
 end
def uptoSmall : (H : Type) → List (DataW H) → Bool := fun _ ds => decide (uptoBulkAll ds ≤ 1048576)
def OpenSpec.upto (s : _root_.Go.ChangeSpec) : _root_.Go.OpenSpec := { _root_.Go.OpenSpec.ofChange s with cond := some uptoSmall }

/-- 'fringelaw09.DelaySplits', WHERE WHAT IT READS IS OF BULK AT MOST 1048576: true; the input reads as it did. -/
def delaySplitsUptoRow : OpenClaim := { program := "ytkmhmabkahaekaa", sum := "a42a8638a039f6a2d531b734f5d7f8ff9792e21da42236f8c8d6a1228b18360b", func := "fringe/fringelaw09.DelaySplits", spec := "delaySplits", apart := false, narrowed := true }
def DelaySplitsUptoSaid : Prop := delaySplitsUptoRow.holds Try.pinned (OpenSpec.upto delaySplitsSpec)

/-- 'fringelaw05.SineTables', WHERE WHAT IT READS IS OF BULK AT MOST 1048576: true; the input reads as it did. -/
def sineTablesUptoRow : OpenClaim := { program := "ytkmhmabkahaekaa", sum := "a42a8638a039f6a2d531b734f5d7f8ff9792e21da42236f8c8d6a1228b18360b", func := "fringe/fringelaw05.SineTables", spec := "sineTables", named := ["math/bits.divideError", "math/bits.overflowError"], apart := false, narrowed := true }
def SineTablesUptoSaid : Prop := sineTablesUptoRow.holds Try.pinned (OpenSpec.upto sineTablesSpec)

/-- 'fringelaw05.SineCircle', WHERE WHAT IT READS IS OF BULK AT MOST 1048576: true; the input reads as it did. -/
def sineCircleUptoRow : OpenClaim := { program := "ytkmhmabkahaekaa", sum := "a42a8638a039f6a2d531b734f5d7f8ff9792e21da42236f8c8d6a1228b18360b", func := "fringe/fringelaw05.SineCircle", spec := "sineCircle", named := ["math/bits.divideError", "math/bits.overflowError"], apart := false, narrowed := true }
def SineCircleUptoSaid : Prop := sineCircleUptoRow.holds Try.pinned (OpenSpec.upto sineCircleSpec)

/-- 'fringelaw05.SineSums', WHERE WHAT IT READS IS OF BULK AT MOST 1048576: true; the input reads as it did. -/
def sineSumsUptoRow : OpenClaim := { program := "ytkmhmabkahaekaa", sum := "a42a8638a039f6a2d531b734f5d7f8ff9792e21da42236f8c8d6a1228b18360b", func := "fringe/fringelaw05.SineSums", spec := "sineSums", named := ["math/bits.divideError", "math/bits.overflowError"], apart := false, narrowed := true }
def SineSumsUptoSaid : Prop := sineSumsUptoRow.holds Try.pinned (OpenSpec.upto sineSumsSpec)

/-- 'fringelaw05.SineWorks', WHERE WHAT IT READS IS OF BULK AT MOST 1048576: true; the input reads as it did. -/
def sineWorksUptoRow : OpenClaim := { program := "ytkmhmabkahaekaa", sum := "a42a8638a039f6a2d531b734f5d7f8ff9792e21da42236f8c8d6a1228b18360b", func := "fringe/fringelaw05.SineWorks", spec := "sineWorks", named := ["math/bits.divideError", "math/bits.overflowError"], apart := false, narrowed := true }
def SineWorksUptoSaid : Prop := sineWorksUptoRow.holds Try.pinned (OpenSpec.upto sineWorksSpec)

/-- 'fringelaw05.SineNames', WHERE WHAT IT READS IS OF BULK AT MOST 1048576: true; the input reads as it did. -/
def sineNamesUptoRow : OpenClaim := { program := "ytkmhmabkahaekaa", sum := "a42a8638a039f6a2d531b734f5d7f8ff9792e21da42236f8c8d6a1228b18360b", func := "fringe/fringelaw05.SineNames", spec := "sineNames", named := ["math/bits.divideError", "math/bits.overflowError"], apart := false, narrowed := true }
def SineNamesUptoSaid : Prop := sineNamesUptoRow.holds Try.pinned (OpenSpec.upto sineNamesSpec)

/-- 'fringelaw05.SineHolds', WHERE WHAT IT READS IS OF BULK AT MOST 1048576: true; the input reads as it did. -/
def sineHoldsUptoRow : OpenClaim := { program := "ytkmhmabkahaekaa", sum := "a42a8638a039f6a2d531b734f5d7f8ff9792e21da42236f8c8d6a1228b18360b", func := "fringe/fringelaw05.SineHolds", spec := "sineHolds", named := ["math/bits.divideError", "math/bits.overflowError"], apart := false, narrowed := true }
def SineHoldsUptoSaid : Prop := sineHoldsUptoRow.holds Try.pinned (OpenSpec.upto sineHoldsSpec)

end Rows
end Go.Proofs.Ytkmhmabkahaekaa
