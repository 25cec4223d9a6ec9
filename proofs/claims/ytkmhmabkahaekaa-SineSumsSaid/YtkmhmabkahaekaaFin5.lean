/-
  A part of the finite check of cosines and sines.
-/
import Derived.Test.YtkmhmabkahaekaaFin0
namespace Go.Proofs.Ytkmhmabkahaekaa.V
namespace Fin
theorem part5 : chkR 594 66 = true := by decide +kernel
end Fin
end Go.Proofs.Ytkmhmabkahaekaa.V
