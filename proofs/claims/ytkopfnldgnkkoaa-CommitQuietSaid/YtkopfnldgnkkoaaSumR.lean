/-
  THE WALK OF grommetref02.Of.
-/
import Derived.Lib.Hide
import Derived.BigQuiet
import Derived.Deep.QuietTactic
import Derived.Test.YtkopfnldgnkkoaaSumB
namespace Go.Proofs.Ytkopfnldgnkkoaa
open Go.RowKit

set_option maxHeartbeats 400000 in
theorem ref_of (a : Option Addr) (cap : Nat) (zs : List Int) (hreach : zs.length * 8 ≤ 140737488351232) (n₀ : Nat) (w : World) (hI : Ints n₀ .u64 w a zs) :
    Calls Try.prog 94 #[.slice a zs.length cap] w fun e w' => e = .returned (.int .u64 (sumOf zs)) ∧ w = w' := by
  rcases hI with rfl | ⟨b, off, rfl, hb, hcs⟩
  · go_enter Try.func94, Try.ntmps94
    go_wp2
    go_loop [3, 4] (fun s i => i = .int .i64 0 ∧ s = .int .u64 (sumOf [])) (fun _ _ => 0)
    case atStart => exact ⟨rfl, rfl⟩
    case round =>
      obtain ⟨rfl, rfl⟩ := hrel
      go_wp2
      go_ret
      exact ⟨rfl, rfl⟩
  · go_enter Try.func94, Try.ntmps94
    go_wp2
    go_loop [3, 4] (fun s i => ∃ k : Nat, k ≤ zs.length ∧ i = .int .i64 k ∧ s = .int .u64 (sumOf (zs.take k))) (fun _ i => zs.length - (intOf i).toNat)
    case atStart => exact ⟨0, Nat.zero_le _, rfl, rfl⟩
    case round =>
      obtain ⟨k, hk, rfl, rfl⟩ := hrel
      by_cases hlt : k < zs.length
      · have hc := hcs k hlt
        have hs : sumOf (zs.take (k + 1)) = stp (sumOf (zs.take k)) (zs[k]?.getD 0) := by
          rw [List.take_succ_eq_append_getElem hlt, sumOf_snoc]; simp [hlt]
        have HS := Lib.hid hs
        clear hs hcs
        go_wp2
        go_round
        case rel => exact ⟨k + 1, by omega, by go_num, by rw [HS.out, stp]; simp [hlt]⟩
        case measure => simp [intOf]; omega
      · obtain rfl : k = zs.length := by omega
        clear hcs
        go_wp2
        go_ret
        exact ⟨rfl, rfl⟩

theorem ref_of_len (a : Option Addr) (len cap : Nat) (zs : List Int) (hl : zs.length = len) (hreach : len * 8 ≤ 140737488351232) (n₀ : Nat) (w : World) (hI : Ints n₀ .u64 w a zs) :
    Calls Try.prog 94 #[.slice a len cap] w fun e w' => e = .returned (.int .u64 (sumOf zs)) ∧ w = w' := by
  subst hl; exact ref_of a cap zs hreach n₀ w hI

end Go.Proofs.Ytkopfnldgnkkoaa
