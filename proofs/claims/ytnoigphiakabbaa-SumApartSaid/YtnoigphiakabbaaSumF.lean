/-
  THE WALK OF grommetlaw02.SumApart.
-/
import Derived.Test.YtnoigphiakabbaaSumD
namespace Go.Proofs.Ytnoigphiakabbaa
open Go.RowKit

theorem sum_take_succ (zs : List Int) (k : Nat) (h : k < zs.length) : sumOf (zs.take (k + 1)) = stp (sumOf (zs.take k)) zs[k] := by
  rw [List.take_succ_eq_append_getElem h, sumOf_snoc]
theorem sum_take_over (zs : List Int) (k : Nat) (h : zs.length ≤ k) : sumOf (zs.take (k + 1)) = sumOf (zs.take k) := by
  rw [List.take_of_length_le h, List.take_of_length_le (by omega)]
theorem Ints.at {n₀ : Nat} {k : IntKind} {A : World} {a : Option Addr} {zs : List Int} (h : Ints n₀ k A a zs) {j : Nat} (hj : j < zs.length) :
    ∃ b off, a = some ⟨b, off, none⟩ ∧ b < n₀ ∧ A.cell? ⟨b, off + j, none⟩ = some (.int k zs[j]) := by
  rcases h with rfl | ⟨b, off, e, hb, hc⟩
  · simp at hj
  · exact ⟨b, off, e, hb, by rw [hc j hj]; simp [hj]⟩

/-- Between two rounds: both sums hold what came. -/
structure Two (w wr : World) (s1 s2 : Nat) (x y : Int) : Prop where
  c1 : wr.cell? ⟨s1, 0, none⟩ = some (.int .u64 x)
  f1 : wr.frozen? ⟨s1, 0, none⟩ = false
  c2 : wr.cell? ⟨s2, 0, none⟩ = some (.int .u64 y)
  f2 : wr.frozen? ⟨s2, 0, none⟩ = false
  b : Below w.heap.size w wr
theorem Two.set1 {w wr : World} {s1 s2 : Nat} {x y : Int} (h : Two w wr s1 s2 x y) (hne : s1 ≠ s2) (hle : w.heap.size ≤ s1) (z : Int) : Two w (wr.setCell ⟨s1, 0, none⟩ (.int .u64 z)) s1 s2 z y :=
  ⟨World.cell?_setCell_same' _ _ _ (by rw [h.c1]; rfl), by rw [World.frozen?_setCell]; exact h.f1,
   (World.cell?_setCell_other wr ⟨s1, 0, none⟩ ⟨s2, 0, none⟩ _ (by simp only [ne_eq, Addr.mk.injEq, not_and]; intro e; exact absurd e hne)).trans h.c2, by rw [World.frozen?_setCell]; exact h.f2, h.b.setCell (p := ⟨s1, 0, none⟩) hle _⟩
theorem Two.set2 {w wr : World} {s1 s2 : Nat} {x y : Int} (h : Two w wr s1 s2 x y) (hne : s1 ≠ s2) (hle : w.heap.size ≤ s2) (z : Int) : Two w (wr.setCell ⟨s2, 0, none⟩ (.int .u64 z)) s1 s2 x z :=
  ⟨(World.cell?_setCell_other wr ⟨s2, 0, none⟩ ⟨s1, 0, none⟩ _ (by simp only [ne_eq, Addr.mk.injEq, not_and]; intro e; exact absurd e.symm hne)).trans h.c1, by rw [World.frozen?_setCell]; exact h.f1,
   World.cell?_setCell_same' _ _ _ (by rw [h.c2]; rfl), by rw [World.frozen?_setCell]; exact h.f2, h.b.setCell (p := ⟨s2, 0, none⟩) hle _⟩

set_option maxHeartbeats 1000000 in
theorem walk_apart (a : Option Addr) (cap : Nat) (zs : List Int) (hm : zs.length * 8 ≤ 140737488351232) (a2 : Option Addr) (cap2 : Nat) (ys : List Int) (hm2 : ys.length * 8 ≤ 140737488351232) (w : World)
    (hI : Ints w.heap.size .u64 w a zs) (hI2 : Ints w.heap.size .u64 w a2 ys) :
    Calls Try.prog 7 #[.slice a zs.length cap, .slice a2 ys.length cap2] w fun e w' => e = .returned (.bool true) ∧ Below w.heap.size w w' := by
  by_cases hg : 2048 < zs.length + ys.length
  · have hgd : decide (2048 < (zs.length : Int) + (ys.length : Int)) = true := by simp; omega
    go_enter Try.func7, Try.ntmps7
    go_wp2_with fail
    refine (works_ok _).mono ?_
    rintro e w' ⟨rfl, hb⟩
    go_wp2_with fail
    go_ret
    exact ⟨rfl, hb⟩
  have hgd : decide (2048 < (zs.length : Int) + (ys.length : Int)) = false := by simp; omega
  go_enter Try.func7, Try.ntmps7
  go_wp2_with fail
  refine (sum_new _).mono ?_
  rintro e w1 ⟨rfl, hw1⟩
  have hz1 : w1.heap.size = w.heap.size + 1 := by rw [hw1]; simp
  have HZ1 := Lib.hid hz1
  clear hz1
  have HW1 := Lib.hid hw1
  clear hw1
  go_wp2_with fail
  refine (sum_new _).mono ?_
  rintro e w2 ⟨rfl, hw2⟩
  have ht : Two w w2 w.heap.size w1.heap.size (sumOf (zs.take 0)) (sumOf (ys.take 0)) := by
    have := HW1.out
    subst this
    subst hw2
    exact ⟨by simp [go_sem, sumOf], by simp [go_sem], by simp [go_sem, sumOf], by simp [go_sem], ((Below.refl _ w).alloc (Nat.le_refl _) _).alloc (by simp) _⟩
  have hne : w.heap.size ≠ w1.heap.size := by have := HZ1.out; omega
  have hle : w.heap.size ≤ w1.heap.size := by have := HZ1.out; omega
  clear hw2 HW1 HZ1
  have Hne := Lib.hid hne
  clear hne
  go_wp2_with fail
  go_loopw [7] (fun i wr => ∃ k : Nat, k ≤ 2048 ∧ i = .int .i64 k ∧ Two w wr w.heap.size w1.heap.size (sumOf (zs.take k)) (sumOf (ys.take k))) (fun i _ => 4096 - (intOf i).toNat)
  case atStart => exact ⟨0, by omega, rfl, ht⟩
  case round =>
    clear ht
    obtain ⟨k, hk, rfl, ht⟩ := hrel
    have hJ := hI.below ht.b
    have hJ2 := hI2.below ht.b
    clear hI hI2
    by_cases h1 : k < zs.length
    · obtain ⟨b, off, rfl, hb, hc⟩ := hJ.at h1
      have e1 := Lib.hid (sum_take_succ zs k h1)
      have hd1 : decide ((k : Int) < zs.length) = true := by simp; omega
      by_cases h2 : k < ys.length
      · obtain ⟨b2, off2, rfl, hb2, hcc⟩ := hJ2.at h2
        have e2 := Lib.hid (sum_take_succ ys k h2)
        have hd2 : decide ((k : Int) < ys.length) = true := by simp; omega
        go_wp2_with fail
        refine (sum_add _ _ _ _ ht.c1 ht.f1).mono ?_
        rintro e w3 ⟨rfl, hw3⟩
        have ht3 : Two w w3 w.heap.size w1.heap.size (sumOf (zs.take (k + 1))) (sumOf (ys.take k)) := by rw [hw3, e1.out]; exact ht.set1 Hne.out (Nat.le_refl _) _
        have hc3 : w3.cell? ⟨b2, off2 + k, none⟩ = some (.int .u64 ys[k]) := by
          rw [hw3, World.cell?_setCell_other _ _ _ _ (fun e => by injection e with e1; omega)]; exact hcc
        clear hw3
        go_wp2_with fail
        refine (sum_add _ _ _ _ ht3.c2 ht3.f2).mono ?_
        rintro e w4 ⟨rfl, hw4⟩
        have ht4 : Two w w4 w.heap.size w1.heap.size (sumOf (zs.take (k + 1))) (sumOf (ys.take (k + 1))) := by rw [hw4, e2.out]; exact ht3.set2 Hne.out hle _
        clear hw4
        go_wp2_with fail
        refine (sum_now _ _ _ ht4.c1).mono ?_
        rintro e _ ⟨rfl, rfl⟩
        go_wp2_with fail
        refine (sum_now _ _ _ ht4.c1).mono ?_
        rintro e _ ⟨rfl, rfl⟩
        go_wp2_with fail
        go_roundw
        case rel => exact ⟨k + 1, by omega, by go_num, ht4⟩
        case measure => simp [intOf]; omega
      · have hd2 : decide ((k : Int) < ys.length) = false := by simp; omega
        have e2 := Lib.hid (sum_take_over ys k (by omega))
        go_wp2_with fail
        refine (sum_add _ _ _ _ ht.c1 ht.f1).mono ?_
        rintro e w3 ⟨rfl, hw3⟩
        have ht3 : Two w w3 w.heap.size w1.heap.size (sumOf (zs.take (k + 1))) (sumOf (ys.take (k + 1))) := by rw [hw3, e1.out, e2.out]; exact ht.set1 Hne.out (Nat.le_refl _) _
        clear hw3
        go_wp2_with fail
        refine (sum_now _ _ _ ht3.c1).mono ?_
        rintro e _ ⟨rfl, rfl⟩
        go_wp2_with fail
        refine (sum_now _ _ _ ht3.c1).mono ?_
        rintro e _ ⟨rfl, rfl⟩
        go_wp2_with fail
        go_roundw
        case rel => exact ⟨k + 1, by omega, by go_num, ht3⟩
        case measure => simp [intOf]; omega
    · have hd1 : decide ((k : Int) < zs.length) = false := by simp; omega
      by_cases h2 : k < ys.length
      · obtain ⟨b2, off2, rfl, hb2, hcc⟩ := hJ2.at h2
        have e1 := Lib.hid (sum_take_over zs k (by omega))
        have e2 := Lib.hid (sum_take_succ ys k h2)
        have hd2 : decide ((k : Int) < ys.length) = true := by simp; omega
        go_wp2_with fail
        refine (sum_add _ _ _ _ ht.c2 ht.f2).mono ?_
        rintro e w4 ⟨rfl, hw4⟩
        have ht4 : Two w w4 w.heap.size w1.heap.size (sumOf (zs.take (k + 1))) (sumOf (ys.take (k + 1))) := by rw [hw4, e1.out, e2.out]; exact ht.set2 Hne.out hle _
        clear hw4
        go_wp2_with fail
        refine (sum_now _ _ _ ht4.c1).mono ?_
        rintro e _ ⟨rfl, rfl⟩
        go_wp2_with fail
        refine (sum_now _ _ _ ht4.c1).mono ?_
        rintro e _ ⟨rfl, rfl⟩
        go_wp2_with fail
        go_roundw
        case rel => exact ⟨k + 1, by omega, by go_num, ht4⟩
        case measure => simp [intOf]; omega
      · have hd2 : decide ((k : Int) < ys.length) = false := by simp; omega
        rw [List.take_of_length_le (by omega), List.take_of_length_le (by omega)] at ht
        go_wp2_with fail
        refine (sum_now _ _ _ ht.c1).mono ?_
        rintro e _ ⟨rfl, rfl⟩
        go_wp2_with fail
        have hb0 := ht.b
        refine (sum_of_len a _ cap zs rfl (by omega) _ (hJ.mono hb0.size)).mono ?_
        rintro e w5 ⟨rfl, hb5⟩
        have hb05 := hb0.trans (hb5.mono hb0.size)
        have hc5 : w5.cell? ⟨w1.heap.size, 0, none⟩ = some (.int .u64 (sumOf ys)) := (hb5.cell (p := ⟨w1.heap.size, 0, none⟩) (cell_lt ht.c2).1).trans ht.c2
        go_wp2_with fail
        refine (sum_now _ _ _ hc5).mono ?_
        rintro e _ ⟨rfl, rfl⟩
        go_wp2_with fail
        refine (sum_of_len a2 _ cap2 ys rfl (by omega) _ ((hJ2.below (hb5.mono hb0.size)).mono hb05.size)).mono ?_
        rintro e w6 ⟨rfl, hb6⟩
        have hb06 := hb05.trans (hb6.mono hb05.size)
        go_wp2_with fail
        refine (works_ok _).mono ?_
        rintro e w7 ⟨rfl, hb7⟩
        go_wp2_with fail
        go_ret
        exact ⟨rfl, hb06.trans (hb7.mono hb06.size)⟩
end Go.Proofs.Ytnoigphiakabbaa
