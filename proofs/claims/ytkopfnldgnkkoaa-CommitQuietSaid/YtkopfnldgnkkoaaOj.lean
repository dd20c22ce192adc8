/-
  OPENING: geometries, words.
-/
import Derived.Lib.SmallJoins
import Derived.Test.YtkopfnldgnkkoaaOvN
namespace Go.Proofs.Ytkopfnldgnkkoaa
open Go.RowKit Go.Shelf
set_option linter.unusedVariables false

theorem u64_of_wfI {n : Int} (h : (Lit.int .u64 n).wf = true) : u64 n := by
  simp [Lit.wf, IntKind.min, IntKind.max, IntKind.bits, IntKind.signed] at h
  exact ⟨by omega, by omega⟩
end Go.Proofs.Ytkopfnldgnkkoaa
