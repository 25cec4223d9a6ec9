/-
  A part of the finite check of powers of turns.
-/
import Derived.Test.YtkmhmabkahaekaaFin7
namespace Go.Proofs.Ytkmhmabkahaekaa.V
namespace Fin
theorem part8 : chkV 1 529 = true := by decide +kernel
end Fin
end Go.Proofs.Ytkmhmabkahaekaa.V
