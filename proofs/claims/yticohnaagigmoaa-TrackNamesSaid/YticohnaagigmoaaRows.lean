/-
  No cell of these rows narrows 'for every input' (looked for: loops, veiled, ifaces, maps, wideKeys, modest, calm, conditions, laid).
  DERIVED. THE GIVEN ROWS OF THIS SEAT. 5 by the template 'for every input the law returns true; each argument reads behind the call as it read before'; 0 by the template 'total and deterministic' (their statements: YticohnaagigmoaaTotals.lean).
  GIVEN WITH THE SEED: the statements are not yours to turn. If you find one false, say at which input.
  Laid BY PROGRAM, IN A SANDBOX (cutbox-rows.mjs): the forced cells as the released guide's own fill.sh prints them over the translation c3b557a56f3f236e… (all of the seat's roots in one cut). By AI agents, Wed Nov 11 2026. No macro, syntax, notation, axiom, sorry.
-/
import Derived.Test.YticohnaagigmoaaChecked
import GoSem.Claim
import GoSem.ClaimJoined
import GoSem.ClaimMapViews
import Derived.JoinedTies
import Derived.KernelRfl
namespace Go.Proofs.Yticohnaagigmoaa
/- THE CELL 'sum', in the pinned program and in every row, IS THE sha256 OF THE DUMP (.gsa) THAT YticohnaagigmoaaProg.lean LOADS. Nothing in Lean hashes anything: it is a label: what it is worth is what the hold of that sum in a sandbox is worth. -/
noncomputable def Try.pinned : Pinned := { name := "yticohnaagigmoaa", sum := "c3b557a56f3f236e6e54f1d553634b7f300e082883ae587f1d6e370b24c2973d", checked := Try.checked }
namespace Rows
def none {H : Type} : Left H := { results := [], args := [] }

/-- 'fringelaw06.TrackMakes': WHATEVER THE INPUT: true; the input reads as it did. -/
def trackMakesSpec : ChangeSpec := { name := "trackMakes", fn := fun _ => fun
  | [d1, d2, d3, d4] => { results := [.lit (.bool true)], args := [d1, d2, d3, d4] }
  | _ => none }
def trackMakesRow : OpenClaim := { program := "yticohnaagigmoaa", sum := "c3b557a56f3f236e6e54f1d553634b7f300e082883ae587f1d6e370b24c2973d", func := "fringe/fringelaw06.TrackMakes", spec := "trackMakes", named := ["math/bits.divideError", "math/bits.overflowError"], apart := false }
def TrackMakesSaid : Prop := trackMakesRow.holds Try.pinned (OpenSpec.ofChange trackMakesSpec)

/-- ITS FALSE NEIGHBOUR: 'it returns false'. Refute it at one input. -/
def trackMakesWrong : ChangeSpec := { name := "trackMakes", fn := fun _ => fun
  | [d1, d2, d3, d4] => { results := [.lit (.bool false)], args := [d1, d2, d3, d4] }
  | _ => none }
def TrackMakesWrongFalsely : Prop := trackMakesRow.holds Try.pinned (OpenSpec.ofChange trackMakesWrong)

/-- 'fringelaw06.TrackApart': WHATEVER THE INPUT: true; the input reads as it did. -/
def trackApartSpec : ChangeSpec := { name := "trackApart", fn := fun _ => fun
  | [d1, d2, d3, d4] => { results := [.lit (.bool true)], args := [d1, d2, d3, d4] }
  | _ => none }
def trackApartRow : OpenClaim := { program := "yticohnaagigmoaa", sum := "c3b557a56f3f236e6e54f1d553634b7f300e082883ae587f1d6e370b24c2973d", func := "fringe/fringelaw06.TrackApart", spec := "trackApart", unfollowed := true, recurses := true, named := ["math/bits.divideError", "math/bits.overflowError"], apart := false }
def TrackApartSaid : Prop := trackApartRow.holds Try.pinned (OpenSpec.ofChange trackApartSpec)

/-- ITS FALSE NEIGHBOUR: 'it returns false'. Refute it at one input. -/
def trackApartWrong : ChangeSpec := { name := "trackApart", fn := fun _ => fun
  | [d1, d2, d3, d4] => { results := [.lit (.bool false)], args := [d1, d2, d3, d4] }
  | _ => none }
def TrackApartWrongFalsely : Prop := trackApartRow.holds Try.pinned (OpenSpec.ofChange trackApartWrong)

/-- 'fringelaw06.TrackCircle': WHATEVER THE INPUT: true; the input reads as it did. -/
def trackCircleSpec : ChangeSpec := { name := "trackCircle", fn := fun _ => fun
  | [d1, d2] => { results := [.lit (.bool true)], args := [d1, d2] }
  | _ => none }
def trackCircleRow : OpenClaim := { program := "yticohnaagigmoaa", sum := "c3b557a56f3f236e6e54f1d553634b7f300e082883ae587f1d6e370b24c2973d", func := "fringe/fringelaw06.TrackCircle", spec := "trackCircle", unfollowed := true, recurses := true, named := ["math/bits.divideError", "math/bits.overflowError"], apart := false }
def TrackCircleSaid : Prop := trackCircleRow.holds Try.pinned (OpenSpec.ofChange trackCircleSpec)

/-- ITS FALSE NEIGHBOUR: 'it returns false'. Refute it at one input. -/
def trackCircleWrong : ChangeSpec := { name := "trackCircle", fn := fun _ => fun
  | [d1, d2] => { results := [.lit (.bool false)], args := [d1, d2] }
  | _ => none }
def TrackCircleWrongFalsely : Prop := trackCircleRow.holds Try.pinned (OpenSpec.ofChange trackCircleWrong)

/-- 'fringelaw06.TrackNames': WHATEVER THE INPUT: true; the input reads as it did. -/
def trackNamesSpec : ChangeSpec := { name := "trackNames", fn := fun _ => fun
  | [] => { results := [.lit (.bool true)], args := [] }
  | _ => none }
def trackNamesRow : OpenClaim := { program := "yticohnaagigmoaa", sum := "c3b557a56f3f236e6e54f1d553634b7f300e082883ae587f1d6e370b24c2973d", func := "fringe/fringelaw06.TrackNames", spec := "trackNames", unfollowed := true, recurses := true, named := ["math/bits.divideError", "math/bits.overflowError"], apart := false }
def TrackNamesSaid : Prop := trackNamesRow.holds Try.pinned (OpenSpec.ofChange trackNamesSpec)

/-- ITS FALSE NEIGHBOUR: 'it returns false'. Refute it at one input. -/
def trackNamesWrong : ChangeSpec := { name := "trackNames", fn := fun _ => fun
  | [] => { results := [.lit (.bool false)], args := [] }
  | _ => none }
def TrackNamesWrongFalsely : Prop := trackNamesRow.holds Try.pinned (OpenSpec.ofChange trackNamesWrong)

/-- 'fringelaw06.TrackAlong': WHATEVER THE INPUT: true; the input reads as it did. -/
def trackAlongSpec : ChangeSpec := { name := "trackAlong", fn := fun _ => fun
  | [d1, d2, d3, d4] => { results := [.lit (.bool true)], args := [d1, d2, d3, d4] }
  | _ => none }
def trackAlongRow : OpenClaim := { program := "yticohnaagigmoaa", sum := "c3b557a56f3f236e6e54f1d553634b7f300e082883ae587f1d6e370b24c2973d", func := "fringe/fringelaw06.TrackAlong", spec := "trackAlong", inPlace := ["math/bits.Add64", "math/bits.Sub64"], unfollowed := true, recurses := true, named := ["math/bits.divideError", "math/bits.overflowError"], apart := false }
def TrackAlongSaid : Prop := trackAlongRow.holds Try.pinned (OpenSpec.ofChange trackAlongSpec)

/-- ITS FALSE NEIGHBOUR: 'it returns false'. Refute it at one input. -/
def trackAlongWrong : ChangeSpec := { name := "trackAlong", fn := fun _ => fun
  | [d1, d2, d3, d4] => { results := [.lit (.bool false)], args := [d1, d2, d3, d4] }
  | _ => none }
def TrackAlongWrongFalsely : Prop := trackAlongRow.holds Try.pinned (OpenSpec.ofChange trackAlongWrong)

/- THE SECOND FORM. 'bulk': how many values and letters a reading holds, each counted each time it is reached (what is shared counts as often as it is met; a slice's spare places count too). A statement '..UptoSaid' is the law's where the arguments, and the package variables that the reading takes, are together of bulk at most 1048576: NARROWER than '..Said'. Prove '..Said' where nothing that the law and all that it calls make is longer than what came in: it says more and counts as full. Else prove '..UptoSaid'. A law counts once. -/
mutual
def uptoBulk {H : Type} : DataW H → Nat
  | .lit (.string bytes) => bytes.length + 1
  | .lit _ => 1
  | .nil => 1
  | .ptr d => uptoBulk d + 1
  | .slice elems spare => uptoBulkAll elems + uptoBulkAll spare + 1
  | .agg parts => uptoBulkAll parts + 1
  | .iface _ d => uptoBulk d + 1
  | .map entries => uptoBulkEntries entries + 1
  | .held _ => 1
def uptoBulkAll {H : Type} : List (DataW H) → Nat
  | [] => 0
  | d :: r => uptoBulk d + uptoBulkAll r
def uptoBulkEntries {H : Type} : List (Lit × DataW H) → Nat
  | [] => 0
  | x :: r => uptoBulkEntry x + uptoBulkEntries r
def uptoBulkEntry {H : Type} : Lit × DataW H → Nat
  | (.string bytes, d) => bytes.length + uptoBulk d + 1
  | (_, d) => uptoBulk d + 1
 end
def uptoSmall : (H : Type) → List (DataW H) → Bool := fun _ ds => decide (uptoBulkAll ds ≤ 1048576)
def OpenSpec.upto (s : _root_.Go.ChangeSpec) : _root_.Go.OpenSpec := { _root_.Go.OpenSpec.ofChange s with cond := some uptoSmall }

/-- 'fringelaw06.TrackMakes', WHERE WHAT IT READS IS OF BULK AT MOST 1048576: true; the input reads as it did. -/
def trackMakesUptoRow : OpenClaim := { program := "yticohnaagigmoaa", sum := "c3b557a56f3f236e6e54f1d553634b7f300e082883ae587f1d6e370b24c2973d", func := "fringe/fringelaw06.TrackMakes", spec := "trackMakes", named := ["math/bits.divideError", "math/bits.overflowError"], apart := false, narrowed := true }
def TrackMakesUptoSaid : Prop := trackMakesUptoRow.holds Try.pinned (OpenSpec.upto trackMakesSpec)

/-- 'fringelaw06.TrackApart', WHERE WHAT IT READS IS OF BULK AT MOST 1048576: true; the input reads as it did. -/
def trackApartUptoRow : OpenClaim := { program := "yticohnaagigmoaa", sum := "c3b557a56f3f236e6e54f1d553634b7f300e082883ae587f1d6e370b24c2973d", func := "fringe/fringelaw06.TrackApart", spec := "trackApart", unfollowed := true, recurses := true, named := ["math/bits.divideError", "math/bits.overflowError"], apart := false, narrowed := true }
def TrackApartUptoSaid : Prop := trackApartUptoRow.holds Try.pinned (OpenSpec.upto trackApartSpec)

/-- 'fringelaw06.TrackCircle', WHERE WHAT IT READS IS OF BULK AT MOST 1048576: true; the input reads as it did. -/
def trackCircleUptoRow : OpenClaim := { program := "yticohnaagigmoaa", sum := "c3b557a56f3f236e6e54f1d553634b7f300e082883ae587f1d6e370b24c2973d", func := "fringe/fringelaw06.TrackCircle", spec := "trackCircle", unfollowed := true, recurses := true, named := ["math/bits.divideError", "math/bits.overflowError"], apart := false, narrowed := true }
def TrackCircleUptoSaid : Prop := trackCircleUptoRow.holds Try.pinned (OpenSpec.upto trackCircleSpec)

/-- 'fringelaw06.TrackNames', WHERE WHAT IT READS IS OF BULK AT MOST 1048576: true; the input reads as it did. -/
def trackNamesUptoRow : OpenClaim := { program := "yticohnaagigmoaa", sum := "c3b557a56f3f236e6e54f1d553634b7f300e082883ae587f1d6e370b24c2973d", func := "fringe/fringelaw06.TrackNames", spec := "trackNames", unfollowed := true, recurses := true, named := ["math/bits.divideError", "math/bits.overflowError"], apart := false, narrowed := true }
def TrackNamesUptoSaid : Prop := trackNamesUptoRow.holds Try.pinned (OpenSpec.upto trackNamesSpec)

/-- 'fringelaw06.TrackAlong', WHERE WHAT IT READS IS OF BULK AT MOST 1048576: true; the input reads as it did. -/
def trackAlongUptoRow : OpenClaim := { program := "yticohnaagigmoaa", sum := "c3b557a56f3f236e6e54f1d553634b7f300e082883ae587f1d6e370b24c2973d", func := "fringe/fringelaw06.TrackAlong", spec := "trackAlong", inPlace := ["math/bits.Add64", "math/bits.Sub64"], unfollowed := true, recurses := true, named := ["math/bits.divideError", "math/bits.overflowError"], apart := false, narrowed := true }
def TrackAlongUptoSaid : Prop := trackAlongUptoRow.holds Try.pinned (OpenSpec.upto trackAlongSpec)

end Rows
end Go.Proofs.Yticohnaagigmoaa
