/-
  THE DOCUMENT's DEVICES: Evict of no line.
-/
import Derived.Test.YtkopfnldgnkkoaaGreatRwB
namespace Go.Proofs.YtkopfnldgnkkoaaGreat
open Go.RowKit Go.Shelf
set_option linter.unusedVariables false

set_option maxHeartbeats 1000000 in
theorem revict_out (d b N : Nat) (f : Nat → Wd) (i : Int) (hi : i < 0 ∨ (N : Int) ≤ i * 8) (w : World) (h : RevAt w d b N f) :
    Calls Tryz.prog 19 #[.pointer (some ⟨d, 0, none⟩), .int .i64 i] w fun e w' => e = .returned (.int .i64 8) ∧ w = w' := by
  have h8 := h.by8
  have HL := Lib.hid (rline_any d b N f i w h)
  rw [show decide ((0 : Int) ≤ i ∧ i < (N / 8 : Nat)) = false from decide_eq_false (by omega)] at HL
  clear h
  go_enter Tryz.func19, Tryz.ntmps19
  go_wp2_with fail
  (with_reducible refine HL.out.mono ?_)
  rintro e w1 ⟨rfl, rfl⟩
  go_wp2_with fail
  go_ret
  exact ⟨rfl, rfl⟩
end Go.Proofs.YtkopfnldgnkkoaaGreat
