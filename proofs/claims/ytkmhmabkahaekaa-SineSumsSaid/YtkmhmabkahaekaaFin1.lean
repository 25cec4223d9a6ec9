/-
  A part of the finite check of cosines and sines.
-/
import Derived.Test.YtkmhmabkahaekaaFin0
namespace Go.Proofs.Ytkmhmabkahaekaa.V
namespace Fin
theorem part1 : chkR 1 299 = true := by decide +kernel
end Fin
end Go.Proofs.Ytkmhmabkahaekaa.V
