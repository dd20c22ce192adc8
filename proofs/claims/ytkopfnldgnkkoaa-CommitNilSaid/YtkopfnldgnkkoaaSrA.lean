/-
  A ROW OF NUMBERS OF ONE'S OWN, SORTED, AND FREED FROM WHAT COMES TWICE.
-/
import Derived.Sort.OwnSortedInts
import Derived.Test.YtkopfnldgnkkoaaShelf
import Derived.Test.YtkopfnldgnkkoaaFr
namespace Go.Proofs.Ytkopfnldgnkkoaa
open Go.RowKit Go.Shelf Go.Sort
set_option linter.unusedVariables false

def sortL (zs : List Int) : List Int := zs.mergeSort fun x y => decide (x ≤ y)
theorem sortL_length (zs : List Int) : (sortL zs).length = zs.length := by unfold sortL; rw [List.length_mergeSort]
theorem sort_own {base n : Nat} {v : Value} {zs : List Int} (w : World) (h : w.ownsRow base 3 1 v n (zs.map (.int .i64))) (hn : n ≤ 1000000) :
    Calls Try.prog 88 #[v] w fun e w' => e = .returned (.tuple #[]) ∧ w'.ownsRow base 3 1 v n ((sortL zs).map (.int .i64)) ∧ w.grownBy w' v.ownBlock := by
  have hl : zs.length = n := by have := h.1; simpa using this
  rcases h.2 with ⟨rfl, rfl⟩ | ⟨g, cap, cur, rfl, hg, hh, hn', hm, hs, hx⟩
  · obtain rfl : zs = [] := List.length_eq_zero_iff.1 hl
    refine (Try.slices_Sort_int_none none 0 w).mono ?_
    rintro e w' ⟨rfl, rfl⟩
    exact ⟨rfl, by simpa [sortL] using h, ⟨rfl, rfl, rfl, Nat.le_refl _, fun _ _ _ => rfl⟩⟩
  · subst hl
    have hH : Holds (Value.int .i64) w g 0 zs.toArray := holds_of_blockI hh (by simpa using hx)
    refine (Try.slices_Sort_int g 0 cap zs w hH (Array.getElem?_eq_some_iff.1 hh).1 (by omega)).mono ?_
    rintro e w' ⟨rfl, k, os, rfl⟩
    refine ⟨rfl, ?_, grownBy_sortedI _⟩
    exact ownsRow_sortedI (ss := zs) (ts := sortL zs) (sortL_length zs) hg hh hn' hm hs
theorem compact_le (zs : List Int) : (Lib.compact zs).length ≤ zs.length := by
  unfold Lib.compact Lib.compactUpTo
  rw [List.length_map]
  exact Nat.le_trans (List.length_filter_le _ _) (by simp)
theorem compact_nil : Lib.compact ([] : List Int) = [] := rfl
theorem compact_own {base n : Nat} {v : Value} {zs : List Int} (w : World) (h : w.ownsRow base 3 1 v n (zs.map (.int .i64))) (hn : n ≤ 1000000) :
    Calls Try.prog 89 #[v] w fun e w' => ∃ v', e = .returned v' ∧ w'.ownsRow base 3 1 v' (Lib.compact zs).length ((Lib.compact zs).map (.int .i64)) ∧ w.grownBy w' v.ownBlock := by
  have hl : zs.length = n := by have := h.1; simpa using this
  rcases h.2 with ⟨rfl, rfl⟩ | ⟨g, cap, cur, rfl, hg, hh, hn', hm, hs, hx⟩
  · obtain rfl : zs = [] := List.length_eq_zero_iff.1 hl
    refine (Try.slices_Compact_int_empty none 0 w).mono ?_
    rintro e w' ⟨rfl, rfl⟩
    exact ⟨_, rfl, by rw [compact_nil]; exact h, ⟨rfl, rfl, rfl, Nat.le_refl _, fun _ _ _ => rfl⟩⟩
  · subst hl
    have hH : Holds (Value.int .i64) w g 0 zs.toArray := holds_of_blockI hh (by simpa using hx)
    refine (Try.slices_Compact_int g 0 cap zs w hH (by omega) hn').mono ?_
    rintro e w' ⟨rfl, k, rfl⟩
    have hc := compact_le zs
    have hg1 := grownBy_sortedI (w := w) (g := g) (n := k) (os := #[]) (Lib.compact zs ++ List.replicate (zs.length - (Lib.compact zs).length) 0).toArray
    have hh1 := heap_sortedI (w := w) (n := k) (os := #[]) (Lib.compact zs ++ List.replicate (zs.length - (Lib.compact zs).length) 0).toArray hh
    rw [grow_empty] at hg1 hh1
    refine ⟨_, rfl, ⟨by simp, .inr ⟨g, cap, _, rfl, hg, hh1, by omega, hm, by simp [putCells, hs], ?_⟩⟩, hg1⟩
    have ht := take_putCellsI cur (Lib.compact zs ++ List.replicate (zs.length - (Lib.compact zs).length) 0) (by simp; omega)
    rw [Nat.mul_one]
    have h2 := congrArg (List.take (Lib.compact zs).length) ht
    rw [List.take_take, Nat.min_eq_left (by simp)] at h2
    rw [h2, List.map_append, List.take_left' (by simp)]

end Go.Proofs.Ytkopfnldgnkkoaa
