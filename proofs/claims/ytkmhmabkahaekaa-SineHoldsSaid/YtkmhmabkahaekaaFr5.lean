/-
  Contracts, printed by a program of this session (wip/tool/sym.py) from the unit text fr5: what each function comes to, and its proof.
-/
import Derived.Test.YtkmhmabkahaekaaFr4
import Derived.Test.YtkmhmabkahaekaaProg
set_option linter.unusedVariables false
set_option linter.unusedSimpArgs false
set_option maxRecDepth 100000
namespace Go.Proofs.Ytkmhmabkahaekaa.V
open Go Go.RowKit
open Go.IntKind (u64 i64 u8 i32 u32)

end Go.Proofs.Ytkmhmabkahaekaa.V
