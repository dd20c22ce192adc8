import Derived.Sort.OwnSortedInts
import Derived.Test.YtkopfnldgnkkoaaShelf
import Derived.Test.YtkopfnldgnkkoaaFr

/-
  A ROW OF NUMBERS OF ONE'S OWN, SORTED, AND FREED FROM WHAT COMES TWICE.
-/
namespace Go.Proofs.Ytkopfnldgnkkoaa
open Go.RowKit Go.Shelf Go.Sort
set_option linter.unusedVariables false

def sortL (zs : List Int) : List Int := zs.mergeSort fun x y => decide (x ≤ y)
theorem sortL_length (zs : List Int) : (sortL zs).length = zs.length := by unfold sortL; rw [List.length_mergeSort]
theorem sort_own {base n : Nat} {v : Value} {zs : List Int} (w : World) (h : w.ownsRow base 3 1 v n (zs.map (.int .i64))) (hn : n ≤ 1000000) :
    Calls Try.prog 88 #[v] w fun e w' => e = .returned (.tuple #[]) ∧ w'.ownsRow base 3 1 v n ((sortL zs).map (.int .i64)) ∧ w.grownBy w' v.ownBlock := by
  have hl : zs.length = n := by have := h.1; simpa using this
  rcases h.2 with ⟨rfl, rfl⟩ | ⟨g, cap, cur, rfl, hg, hh, hn', hm, hs, hx⟩
  · obtain rfl : zs = [] := List.length_eq_zero_iff.1 hl
    refine (Try.slices_Sort_int_none none 0 w).mono ?_
    rintro e w' ⟨rfl, rfl⟩
    exact ⟨rfl, by simpa [sortL] using h, ⟨rfl, rfl, rfl, Nat.le_refl _, fun _ _ _ => rfl⟩⟩
  · subst hl
    have hH : Holds (Value.int .i64) w g 0 zs.toArray := holds_of_blockI hh (by simpa using hx)
    refine (Try.slices_Sort_int g 0 cap zs w hH (Array.getElem?_eq_some_iff.1 hh).1 (by omega)).mono ?_
    rintro e w' ⟨rfl, k, os, rfl⟩
    refine ⟨rfl, ?_, grownBy_sortedI _⟩
    exact ownsRow_sortedI (ss := zs) (ts := sortL zs) (sortL_length zs) hg hh hn' hm hs
theorem compact_le (zs : List Int) : (Lib.compact zs).length ≤ zs.length := by
  unfold Lib.compact Lib.compactUpTo
  rw [List.length_map]
  exact Nat.le_trans (List.length_filter_le _ _) (by simp)
theorem compact_nil : Lib.compact ([] : List Int) = [] := rfl
theorem compact_own {base n : Nat} {v : Value} {zs : List Int} (w : World) (h : w.ownsRow base 3 1 v n (zs.map (.int .i64))) (hn : n ≤ 1000000) :
    Calls Try.prog 89 #[v] w fun e w' => ∃ v', e = .returned v' ∧ w'.ownsRow base 3 1 v' (Lib.compact zs).length ((Lib.compact zs).map (.int .i64)) ∧ w.grownBy w' v.ownBlock := by
  have hl : zs.length = n := by have := h.1; simpa using this
  rcases h.2 with ⟨rfl, rfl⟩ | ⟨g, cap, cur, rfl, hg, hh, hn', hm, hs, hx⟩
  · obtain rfl : zs = [] := List.length_eq_zero_iff.1 hl
    refine (Try.slices_Compact_int_empty none 0 w).mono ?_
    rintro e w' ⟨rfl, rfl⟩
    exact ⟨_, rfl, by rw [compact_nil]; exact h, ⟨rfl, rfl, rfl, Nat.le_refl _, fun _ _ _ => rfl⟩⟩
  · subst hl
    have hH : Holds (Value.int .i64) w g 0 zs.toArray := holds_of_blockI hh (by simpa using hx)
    refine (Try.slices_Compact_int g 0 cap zs w hH (by omega) hn').mono ?_
    rintro e w' ⟨rfl, k, rfl⟩
    have hc := compact_le zs
    have hg1 := grownBy_sortedI (w := w) (g := g) (n := k) (os := #[]) (Lib.compact zs ++ List.replicate (zs.length - (Lib.compact zs).length) 0).toArray
    have hh1 := heap_sortedI (w := w) (n := k) (os := #[]) (Lib.compact zs ++ List.replicate (zs.length - (Lib.compact zs).length) 0).toArray hh
    rw [grow_empty] at hg1 hh1
    refine ⟨_, rfl, ⟨by simp, .inr ⟨g, cap, _, rfl, hg, hh1, by omega, hm, by simp [putCells, hs], ?_⟩⟩, hg1⟩
    have ht := take_putCellsI cur (Lib.compact zs ++ List.replicate (zs.length - (Lib.compact zs).length) 0) (by simp; omega)
    rw [Nat.mul_one]
    have h2 := congrArg (List.take (Lib.compact zs).length) ht
    rw [List.take_take, Nat.min_eq_left (by simp)] at h2
    rw [h2, List.map_append, List.take_left' (by simp)]

end Go.Proofs.Ytkopfnldgnkkoaa

/-
  LINES, PLAINLY: what a row of numbers, sorted and freed from what comes twice, is.
-/
namespace Go.Proofs.Ytkopfnldgnkkoaa
open Go.Lib
set_option linter.unusedVariables false

/-- Two rising lists of the same numbers are one. -/
theorem rising_ext : ∀ {a b : List Int}, a.Pairwise (· < ·) → b.Pairwise (· < ·) → (∀ x, x ∈ a ↔ x ∈ b) → a = b
  | [], [], _, _, _ => rfl
  | [], y :: ys, _, _, h => absurd ((h y).2 List.mem_cons_self) (by simp)
  | x :: xs, [], _, _, h => absurd ((h x).1 List.mem_cons_self) (by simp)
  | x :: xs, y :: ys, ha, hb, h => by
    obtain ⟨a1, a2⟩ := List.pairwise_cons.1 ha
    obtain ⟨b1, b2⟩ := List.pairwise_cons.1 hb
    have e : x = y := by
      rcases List.mem_cons.1 ((h x).1 List.mem_cons_self) with e | e
      · exact e
      · rcases List.mem_cons.1 ((h y).2 List.mem_cons_self) with e' | e'
        · exact e'.symm
        · have := a1 y e'; have := b1 x e; omega
    subst e
    rw [rising_ext a2 b2 (fun z => ?_)]
    constructor
    · intro hz
      rcases List.mem_cons.1 ((h z).1 (List.mem_cons_of_mem _ hz)) with e | e
      · have := a1 z hz; omega
      · exact e
    · intro hz
      rcases List.mem_cons.1 ((h z).2 (List.mem_cons_of_mem _ hz)) with e | e
      · have := b1 z hz; omega
      · exact e
/-- Of a row that does not fall what is kept rises, and is all that is there. -/
theorem compactUpTo_rising (d : Array Int) (hd : ∀ i j, i < j → j < d.size → d[i]! ≤ d[j]!) : ∀ m, m ≤ d.size → (compactUpTo d m).Pairwise (· < ·) ∧ ∀ x, x ∈ compactUpTo d m ↔ ∃ j, j < m ∧ d[j]! = x
  | 0, _ => ⟨by simp [compactUpTo], fun x => by simp [compactUpTo]⟩
  | m + 1, hm => by
    obtain ⟨h1, h2⟩ := compactUpTo_rising d hd m (by omega)
    rw [compactUpTo_succ]
    by_cases hk : keeps d m = true
    · rw [if_pos hk]
      have hlt : ∀ j, j < m → d[j]! < d[m]! := by
        intro j hj
        have hne : d[m]! ≠ d[m - 1]! := by
          intro e
          rw [keeps_neg (by omega) e] at hk
          cases hk
        have l1 : d[j]! ≤ d[m - 1]! := by
          by_cases e : j = m - 1
          · rw [e]; exact Int.le_refl _
          · exact hd j (m - 1) (by omega) (by omega)
        have l2 := hd (m - 1) m (by omega) (by omega)
        omega
      refine ⟨List.pairwise_append.2 ⟨h1, by simp, fun a ha b hb => ?_⟩, fun x => ?_⟩
      · obtain ⟨j, hj, rfl⟩ := (h2 a).1 ha
        rw [List.mem_singleton.1 hb]
        exact hlt j hj
      · rw [List.mem_append, h2, List.mem_singleton]
        constructor
        · rintro (⟨j, hj, e⟩ | e)
          · exact ⟨j, by omega, e⟩
          · exact ⟨m, by omega, e.symm⟩
        · rintro ⟨j, hj, e⟩
          by_cases hjm : j = m
          · subst hjm; exact .inr e.symm
          · exact .inl ⟨j, by omega, e⟩
    · rw [if_neg hk, List.append_nil]
      refine ⟨h1, fun x => ?_⟩
      rw [h2]
      constructor
      · rintro ⟨j, hj, e⟩; exact ⟨j, by omega, e⟩
      · rintro ⟨j, hj, e⟩
        by_cases hjm : j = m
        · subst hjm
          have h0 : 0 < j := by
            rcases Nat.eq_zero_or_pos j with h0 | h0
            · subst h0; exact absurd (keeps_lt_one d 0 (by omega)) hk
            · exact h0
          have he : d[j]! = d[j - 1]! := by
            by_cases e : d[j]! = d[j - 1]!
            · exact e
            · exact absurd (keeps_pos e) hk
          exact ⟨j - 1, by omega, by rw [← he]; exact e⟩
        · exact ⟨j, by omega, e⟩
/-- The lines of some places, rising, each once. -/
def linesOf (zs : List Int) : List Int := ((List.range 8192).filter fun (k : Nat) => decide ((k : Int) ∈ zs)).map fun (k : Nat) => (k : Int)
theorem linesOf_rising (zs : List Int) : (linesOf zs).Pairwise (· < ·) := by
  unfold linesOf
  rw [List.pairwise_map]
  refine List.Pairwise.imp ?_ (List.Pairwise.filter _ List.pairwise_lt_range)
  intro a b h; omega
theorem linesOf_mem {zs : List Int} (h : ∀ z ∈ zs, 0 ≤ z ∧ z < 8192) (x : Int) : x ∈ linesOf zs ↔ x ∈ zs := by
  unfold linesOf
  simp only [List.mem_map, List.mem_filter, List.mem_range, decide_eq_true_eq]
  constructor
  · rintro ⟨k, ⟨_, hk⟩, rfl⟩; exact hk
  · intro hx
    obtain ⟨h0, h1⟩ := h x hx
    exact ⟨x.toNat, ⟨by omega, by rw [show ((x.toNat : Nat) : Int) = x by omega]; exact hx⟩, by omega⟩
theorem compact_sort {zs : List Int} (h : ∀ z ∈ zs, 0 ≤ z ∧ z < 8192) : Lib.compact (sortL zs) = linesOf zs := by
  have hs : (sortL zs).Pairwise (fun x y => decide (x ≤ y) = true) := List.pairwise_mergeSort (fun a b c h1 h2 => by simp only [decide_eq_true_eq] at *; omega) (fun a b => by simp only [Bool.or_eq_true, decide_eq_true_eq]; omega) zs
  have hd : ∀ i j, i < j → j < (sortL zs).toArray.size → (sortL zs).toArray[i]! ≤ (sortL zs).toArray[j]! := by
    intro i j hij hj
    have hj' : j < (sortL zs).length := by simpa using hj
    have hi' : i < (sortL zs).length := by omega
    have := List.pairwise_iff_getElem.1 hs i j hi' hj' hij
    simpa [hi', hj'] using this
  obtain ⟨h1, h2⟩ := compactUpTo_rising (sortL zs).toArray hd (sortL zs).length (by simp)
  refine rising_ext h1 (linesOf_rising zs) (fun x => ?_)
  rw [linesOf_mem h]
  unfold compact
  rw [h2]
  have hp : x ∈ sortL zs ↔ x ∈ zs := List.mem_mergeSort
  rw [← hp]
  constructor
  · rintro ⟨j, hj, e⟩
    rw [← e]
    have : (sortL zs).toArray[j]! = (sortL zs)[j] := by simp [hj]
    rw [this]; exact List.getElem_mem hj
  · intro hx
    obtain ⟨j, hj, e⟩ := List.getElem_of_mem hx
    exact ⟨j, hj, by simp [hj, e]⟩

end Go.Proofs.Ytkopfnldgnkkoaa
