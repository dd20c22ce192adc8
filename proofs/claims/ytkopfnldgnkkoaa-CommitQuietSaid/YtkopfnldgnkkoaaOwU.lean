/-
  ROWS OF WORDS OF ONE'S OWN.
-/
import Derived.Test.YtkopfnldgnkkoaaRdB
namespace Go.Proofs.Ytkopfnldgnkkoaa
open Go.RowKit Go.Shelf
set_option linter.unusedVariables false

/-- What a call that makes a row of words of its own tells. -/
def OwnU (w : World) (zs : List Int) (e : Ending) (w' : World) : Prop :=
  ∃ v, e = .returned v ∧ w'.ownsRow w.heap.size 39 1 v zs.length (zs.map (.int .u64)) ∧ Nw w w'
theorem OwnU.slice {w w' : World} {zs : List Int} {e : Ending} (h : OwnU w zs e w') : ∃ a c, e = .returned (.slice a zs.length c) ∧ Ints w'.heap.size .u64 w' a zs ∧ Nw w w' ∧ zs.length ≤ c := by
  obtain ⟨v, rfl, ho, hn⟩ := h
  obtain ⟨a, c, rfl, _, hI⟩ := Ints.of_owns ho
  exact ⟨a, c, rfl, hI, hn, own_cap ho⟩
end Go.Proofs.Ytkopfnldgnkkoaa
