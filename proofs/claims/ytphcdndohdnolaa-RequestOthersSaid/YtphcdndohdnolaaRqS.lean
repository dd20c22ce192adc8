/-
  THE WALK OF RequestFields' bytes.
-/
import Derived.Deep.DeepCutAuto
import Derived.Test.YtphcdndohdnolaaRqO
namespace Go.Proofs.Ytphcdndohdnolaa
open Go.RowKit Go.Shelf
set_option linter.unusedVariables false

/-- What Few lets in is small. -/
theorem few_small {r : Rq} (hr : okRq r) (h : (r.path.size : Int) + r.dst.size + r.data.size ≤ 2048) : smallRq r := ⟨hr, by omega⟩

end Go.Proofs.Ytphcdndohdnolaa
