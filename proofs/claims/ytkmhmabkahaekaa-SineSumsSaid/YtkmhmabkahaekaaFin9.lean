/-
  A part of the finite check of powers of turns.
-/
import Derived.Test.YtkmhmabkahaekaaFin7
namespace Go.Proofs.Ytkmhmabkahaekaa.V
namespace Fin
theorem part9 : chkV 530 191 = true := by decide +kernel
end Fin
end Go.Proofs.Ytkmhmabkahaekaa.V
