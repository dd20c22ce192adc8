/-
  THE WALKS OF grommetref03.Same.
-/
import Derived.Laws.StructEq
import Derived.Test.YtkopfnldgnkkoaaRdF
namespace Go.Proofs.Ytkopfnldgnkkoaa
open Go.RowKit Go.Shelf
set_option linter.unusedVariables false

theorem Pairs.at {k1 k2 : IntKind} {n₀ : Nat} {A : World} {a : Option Addr} {l : List Wr} (h : Pairs k1 k2 n₀ A a l) {j : Nat} (hj : j < l.length) :
    ∃ b off, a = some ⟨b, off, none⟩ ∧ A.cell? ⟨b, off + j * 2, none⟩ = some (.int k1 l[j].1) ∧ A.cell? ⟨b, off + j * 2 + 1, none⟩ = some (.int k2 l[j].2) := by
  rcases h with rfl | ⟨b, off, e, hb, hc⟩
  · simp at hj
  · have := hc j hj
    rw [List.getElem?_eq_getElem hj] at this
    exact ⟨b, off, e, this.1, this.2⟩

set_option maxHeartbeats 1000000 in
theorem same_no_len (a1 : Option Addr) (n1 c1 : Nat) (a2 : Option Addr) (n2 c2 : Nat) (h : n1 ≠ n2) (w : World) :
    Calls Try.prog 21 #[.slice a1 n1 c1, .slice a2 n2 c2] w (Quietly (.bool false) w) := by
  have hd : ((n1 : Int) != (n2 : Int)) = true := by rw [bne_iff_ne]; omega
  clear h
  go_enter Try.func21, Try.ntmps21
  go_wp2_with fail
  go_ret
  exact ⟨rfl, 0, rfl⟩

set_option maxHeartbeats 2000000 in
theorem same_len (a1 : Option Addr) (n c1 : Nat) (a2 : Option Addr) (c2 : Nat) (xs ys : List Int) (hx : xs.length = n) (hy : ys.length = n) (hn : n * 8 ≤ 140737488351232) (B : Nat) (w : World) (hI : Ints B .u64 w a1 xs) (hJ : Ints B .u64 w a2 ys) :
    Calls Try.prog 21 #[.slice a1 n c1, .slice a2 n c2] w (Quietly (.bool (decide (xs = ys))) w) := by
  have HX := Lib.hid hx
  have HY := Lib.hid hy
  clear hx hy
  go_enter Try.func21, Try.ntmps21
  go_wp2_with fail
  go_loopw [5] (fun i wr => ∃ k : Nat, k ≤ n ∧ i = .int .i64 k ∧ xs.take k = ys.take k ∧ ∃ m, wr = w.drewN m) (fun i _ => n - (intOf i).toNat)
  case atStart => exact ⟨0, by omega, rfl, rfl, 0, rfl⟩
  case round =>
    obtain ⟨k, hk, rfl, htk, m, hm⟩ := hrel
    have HT := Lib.hid htk
    have HMm := Lib.hid hm
    clear htk hm
    by_cases hlt : k < n
    · obtain ⟨b1, o1, rfl, _, p1⟩ := hI.at (j := k) (by rw [HX.out]; exact hlt)
      obtain ⟨b2, o2, rfl, _, p2⟩ := hJ.at (j := k) (by rw [HY.out]; exact hlt)
      have q1 := (show wr.cell? ⟨b1, o1 + k, none⟩ = w.cell? ⟨b1, o1 + k, none⟩ from by rw [HMm.out]; rfl).trans p1
      have q2 := (show wr.cell? ⟨b2, o2 + k, none⟩ = w.cell? ⟨b2, o2 + k, none⟩ from by rw [HMm.out]; rfl).trans p2
      clear p1 p2 hI hJ
      obtain ⟨x, hx⟩ : ∃ x, xs[k]'(by rw [HX.out]; exact hlt) = x := ⟨_, rfl⟩
      obtain ⟨y, hy⟩ : ∃ y, ys[k]'(by rw [HY.out]; exact hlt) = y := ⟨_, rfl⟩
      rw [hx] at q1
      rw [hy] at q2
      have HXX := Lib.hid hx
      have HYY := Lib.hid hy
      clear hx hy
      by_cases he : x = y
      · have hd : (x != y) = false := by rw [he]; simp
        have HE := Lib.hid he
        clear he
        go_wp2_with fail
        go_quiet (fail)
        go_wp2_with fail
        go_roundw
        case rel => exact ⟨k + 1, by omega, by go_num, by rw [List.take_succ_eq_append_getElem (by rw [HX.out]; exact hlt), List.take_succ_eq_append_getElem (by rw [HY.out]; exact hlt), HT.out, HXX.out, HYY.out, HE.out], m + nq, by rw [HMm.out, World.drewN_drewN]⟩
        case measure => simp [intOf]; omega
      · have hd : (x != y) = true := by rw [bne_iff_ne]; exact he
        have HF := Lib.hid (show decide (xs = ys) = false by
          rw [decide_eq_false_iff_not]; intro hh; subst hh; exact he (HXX.out.symm.trans HYY.out))
        clear he
        go_wp2_with fail
        go_quiet (fail)
        go_wp2_with fail
        go_ret
        exact ⟨by rw [HF.out]; rfl, m + nq, by rw [HMm.out, World.drewN_drewN]⟩
    · have HF := Lib.hid (show decide (xs = ys) = true by
        rw [decide_eq_true_eq]
        have := HT.out
        rwa [List.take_of_length_le (by rw [HX.out]; omega), List.take_of_length_le (by rw [HY.out]; omega)] at this)
      go_wp2_with fail
      go_ret
      exact ⟨by rw [HF.out]; rfl, m, HMm.out⟩

end Go.Proofs.Ytkopfnldgnkkoaa
