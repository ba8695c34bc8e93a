/-
  What all statements of this seat need of the program's table of types.
-/
import Derived.Test.YtgoedfonmocafaaRows
import Derived.Test.YtgoedfonmocafaaCfg
namespace Go.Proofs.Ytgoedfonmocafaa
open Go.Lite Go.ChangeShapes Go.WideShapes Go.ChangeAt Go.RowKit
theorem kids : Kids Try.prog (· < Try.prog.types.size) := kids_rows (by kernel_rfl) (by kernel_rfl)
theorem full : ∀ t e, t < Try.prog.types.size → Try.prog.underlying t = some (.slice e) → 0 < Try.prog.cellsOf e := slices_full_of Try.prog (by kernel_rfl)
end Go.Proofs.Ytgoedfonmocafaa
