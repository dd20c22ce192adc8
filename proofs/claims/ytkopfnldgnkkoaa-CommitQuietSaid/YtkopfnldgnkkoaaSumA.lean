/-
  THE WALKS OF sum.New, (*Sum).Now, (*Sum).Add.
-/
import Derived.Test.YtkopfnldgnkkoaaRows
import Derived.Test.YtkopfnldgnkkoaaLib
import Derived.Test.YtkopfnldgnkkoaaSumM
namespace Go.Proofs.Ytkopfnldgnkkoaa
open Go.RowKit

set_option maxHeartbeats 400000 in
theorem sum_new (w : World) :
    Calls Try.prog 82 #[] w fun e w' => e = .returned (.pointer (some ⟨w.heap.size, 0, none⟩)) ∧ w' = w.alloc (.cells #[.int .u64 14695981039346656037] 156) := by
  go_enter Try.func82, Try.ntmps82
  go_wp2
  go_ret
  exact ⟨rfl, rfl⟩

set_option maxHeartbeats 400000 in
theorem sum_now (b : Nat) (n : Int) (w : World) (hc : w.cell? ⟨b, 0, none⟩ = some (.int .u64 n)) :
    Calls Try.prog 85 #[.pointer (some ⟨b, 0, none⟩)] w fun e w' => e = .returned (.int .u64 n) ∧ w = w' := by
  go_enter Try.func85, Try.ntmps85
  go_wp2
  go_ret
  exact ⟨rfl, rfl⟩

set_option maxHeartbeats 400000 in
theorem sum_now_nil (w : World) :
    Calls Try.prog 85 #[.pointer none] w fun e w' => e = .returned (.int .u64 0) ∧ w = w' := by
  go_enter Try.func85, Try.ntmps85
  go_wp2
  go_ret
  exact ⟨rfl, rfl⟩

set_option maxHeartbeats 400000 in
theorem sum_add (b : Nat) (n x : Int) (w : World) (hc : w.cell? ⟨b, 0, none⟩ = some (.int .u64 n)) (hf : w.frozen? ⟨b, 0, none⟩ = false) :
    Calls Try.prog 83 #[.pointer (some ⟨b, 0, none⟩), .int .u64 x] w fun e w' => e = .returned (.tuple #[]) ∧ w' = w.setCell ⟨b, 0, none⟩ (.int .u64 (stp n x)) := by
  go_enter Try.func83, Try.ntmps83
  go_wp2
  go_end0
  exact ⟨rfl, rfl⟩

set_option maxHeartbeats 400000 in
theorem sum_add_nil (x : Int) (w : World) :
    Calls Try.prog 83 #[.pointer none, .int .u64 x] w fun e w' => e = .returned (.tuple #[]) ∧ w' = w := by
  go_enter Try.func83, Try.ntmps83
  go_wp2
  go_end0
  exact ⟨rfl, rfl⟩

end Go.Proofs.Ytkopfnldgnkkoaa
