/-
  THE WALKS OF grommetref02.Of and of grommetlaw02.works.
-/
import Derived.Lib.Hide
import Derived.BigQuiet
import Derived.Deep.QuietTactic
import Derived.Test.YtnoigphiakabbaaSumB
namespace Go.Proofs.Ytnoigphiakabbaa
open Go.RowKit

set_option maxHeartbeats 400000 in
theorem ref_of (a : Option Addr) (cap : Nat) (zs : List Int) (hreach : zs.length * 8 ≤ 140737488351232) (n₀ : Nat) (w : World) (hI : Ints n₀ .u64 w a zs) :
    Calls Try.prog 11 #[.slice a zs.length cap] w fun e w' => e = .returned (.int .u64 (sumOf zs)) ∧ w = w' := by
  rcases hI with rfl | ⟨b, off, rfl, hb, hcs⟩
  · go_enter Try.func11, Try.ntmps11
    go_wp2
    go_loop [3, 4] (fun s i => i = .int .i64 0 ∧ s = .int .u64 (sumOf [])) (fun _ _ => 0)
    case atStart => exact ⟨rfl, rfl⟩
    case round =>
      obtain ⟨rfl, rfl⟩ := hrel
      go_wp2
      go_ret
      exact ⟨rfl, rfl⟩
  · go_enter Try.func11, Try.ntmps11
    go_wp2
    go_loop [3, 4] (fun s i => ∃ k : Nat, k ≤ zs.length ∧ i = .int .i64 k ∧ s = .int .u64 (sumOf (zs.take k))) (fun _ i => zs.length - (intOf i).toNat)
    case atStart => exact ⟨0, Nat.zero_le _, rfl, rfl⟩
    case round =>
      obtain ⟨k, hk, rfl, rfl⟩ := hrel
      by_cases hlt : k < zs.length
      · have hc := hcs k hlt
        have hs : sumOf (zs.take (k + 1)) = stp (sumOf (zs.take k)) (zs[k]?.getD 0) := by
          rw [List.take_succ_eq_append_getElem hlt, sumOf_snoc]; simp [hlt]
        have HS := Lib.hid hs
        clear hs hcs
        go_wp2
        go_round
        case rel => exact ⟨k + 1, by omega, by go_num, by rw [HS.out, stp]; simp [hlt]⟩
        case measure => simp [intOf]; omega
      · obtain rfl : k = zs.length := by omega
        clear hcs
        go_wp2
        go_ret
        exact ⟨rfl, rfl⟩

theorem ref_of_len (a : Option Addr) (len cap : Nat) (zs : List Int) (hl : zs.length = len) (hreach : len * 8 ≤ 140737488351232) (n₀ : Nat) (w : World) (hI : Ints n₀ .u64 w a zs) :
    Calls Try.prog 11 #[.slice a len cap] w fun e w' => e = .returned (.int .u64 (sumOf zs)) ∧ w = w' := by
  subst hl; exact ref_of a cap zs hreach n₀ w hI

theorem sum_one_ne : (sumOf [1] != 14695981039346656037) = true := by decide +kernel

set_option maxHeartbeats 400000 in
theorem works_ok (w : World) :
    Calls Try.prog 8 #[] w fun e w' => e = .returned (.bool true) ∧ Below w.heap.size w w' := by
  go_enter Try.func8, Try.ntmps8
  go_wp2_with fail
  refine (sum_new _).mono ?_
  rintro e w1 ⟨rfl, hw1⟩
  have hc1 : w1.cell? ⟨w.heap.size, 0, none⟩ = some (.int .u64 14695981039346656037) := by rw [hw1]; simp [go_sem]
  have hb1 : Below w.heap.size w w1 := by rw [hw1]; exact (Below.refl _ w).alloc (Nat.le_refl _) _
  have hz1 : w.heap.size < w1.heap.size := by rw [hw1]; simp
  clear hw1
  go_wp2_with fail
  refine (sum_now _ _ _ hc1).mono ?_
  rintro e _ ⟨rfl, rfl⟩
  go_wp2_with fail
  refine (sum_of none 0 [] (by simp) _ (.inl rfl)).mono ?_
  rintro e w2 ⟨rfl, hb2⟩
  have hc2 := (hb2.cell (p := ⟨w.heap.size, 0, none⟩) hz1).trans hc1
  have hz2 := hb2.size
  go_wp2_with fail
  refine (sum_now _ _ _ hc2).mono ?_
  rintro e _ ⟨rfl, rfl⟩
  have hse : (sumOf [] == 14695981039346656037) = true := rfl
  go_wp2_with fail
  refine (sum_of (some ⟨w2.heap.size, 0, none⟩) 1 [1] (by simp) _ (.inr ⟨_, 0, rfl, by simp, by intro j hj; simp at hj; subst hj; simp [go_sem]⟩)).mono ?_
  rintro e w3 ⟨rfl, hb3⟩
  have hb23 : Below w1.heap.size w2 w3 := ((Below.refl _ w2).alloc hz2 _).trans (hb3.mono (by simp; omega))
  have hc3 := (hb23.cell (p := ⟨w.heap.size, 0, none⟩) hz1).trans hc2
  go_wp2_with fail
  refine (sum_now _ _ _ hc3).mono ?_
  rintro e _ ⟨rfl, rfl⟩
  have hne := sum_one_ne
  go_wp2_with fail
  go_ret
  exact ⟨rfl, hb1.trans ((hb2.trans hb23).mono (by omega))⟩

end Go.Proofs.Ytnoigphiakabbaa
