/-
  LINES, PLAINLY: what a row of numbers, sorted and freed from what comes twice, is.
-/
import Derived.Test.YtkopfnldgnkkoaaSrA
namespace Go.Proofs.Ytkopfnldgnkkoaa
open Go.Lib
set_option linter.unusedVariables false

/-- Two rising lists of the same numbers are one. -/
theorem rising_ext : ∀ {a b : List Int}, a.Pairwise (· < ·) → b.Pairwise (· < ·) → (∀ x, x ∈ a ↔ x ∈ b) → a = b
  | [], [], _, _, _ => rfl
  | [], y :: ys, _, _, h => absurd ((h y).2 List.mem_cons_self) (by simp)
  | x :: xs, [], _, _, h => absurd ((h x).1 List.mem_cons_self) (by simp)
  | x :: xs, y :: ys, ha, hb, h => by
    obtain ⟨a1, a2⟩ := List.pairwise_cons.1 ha
    obtain ⟨b1, b2⟩ := List.pairwise_cons.1 hb
    have e : x = y := by
      rcases List.mem_cons.1 ((h x).1 List.mem_cons_self) with e | e
      · exact e
      · rcases List.mem_cons.1 ((h y).2 List.mem_cons_self) with e' | e'
        · exact e'.symm
        · have := a1 y e'; have := b1 x e; omega
    subst e
    rw [rising_ext a2 b2 (fun z => ?_)]
    constructor
    · intro hz
      rcases List.mem_cons.1 ((h z).1 (List.mem_cons_of_mem _ hz)) with e | e
      · have := a1 z hz; omega
      · exact e
    · intro hz
      rcases List.mem_cons.1 ((h z).2 (List.mem_cons_of_mem _ hz)) with e | e
      · have := b1 z hz; omega
      · exact e
/-- Of a row that does not fall what is kept rises, and is all that is there. -/
theorem compactUpTo_rising (d : Array Int) (hd : ∀ i j, i < j → j < d.size → d[i]! ≤ d[j]!) : ∀ m, m ≤ d.size → (compactUpTo d m).Pairwise (· < ·) ∧ ∀ x, x ∈ compactUpTo d m ↔ ∃ j, j < m ∧ d[j]! = x
  | 0, _ => ⟨by simp [compactUpTo], fun x => by simp [compactUpTo]⟩
  | m + 1, hm => by
    obtain ⟨h1, h2⟩ := compactUpTo_rising d hd m (by omega)
    rw [compactUpTo_succ]
    by_cases hk : keeps d m = true
    · rw [if_pos hk]
      have hlt : ∀ j, j < m → d[j]! < d[m]! := by
        intro j hj
        have hne : d[m]! ≠ d[m - 1]! := by
          intro e
          rw [keeps_neg (by omega) e] at hk
          cases hk
        have l1 : d[j]! ≤ d[m - 1]! := by
          by_cases e : j = m - 1
          · rw [e]; exact Int.le_refl _
          · exact hd j (m - 1) (by omega) (by omega)
        have l2 := hd (m - 1) m (by omega) (by omega)
        omega
      refine ⟨List.pairwise_append.2 ⟨h1, by simp, fun a ha b hb => ?_⟩, fun x => ?_⟩
      · obtain ⟨j, hj, rfl⟩ := (h2 a).1 ha
        rw [List.mem_singleton.1 hb]
        exact hlt j hj
      · rw [List.mem_append, h2, List.mem_singleton]
        constructor
        · rintro (⟨j, hj, e⟩ | e)
          · exact ⟨j, by omega, e⟩
          · exact ⟨m, by omega, e.symm⟩
        · rintro ⟨j, hj, e⟩
          by_cases hjm : j = m
          · subst hjm; exact .inr e.symm
          · exact .inl ⟨j, by omega, e⟩
    · rw [if_neg hk, List.append_nil]
      refine ⟨h1, fun x => ?_⟩
      rw [h2]
      constructor
      · rintro ⟨j, hj, e⟩; exact ⟨j, by omega, e⟩
      · rintro ⟨j, hj, e⟩
        by_cases hjm : j = m
        · subst hjm
          have h0 : 0 < j := by
            rcases Nat.eq_zero_or_pos j with h0 | h0
            · subst h0; exact absurd (keeps_lt_one d 0 (by omega)) hk
            · exact h0
          have he : d[j]! = d[j - 1]! := by
            by_cases e : d[j]! = d[j - 1]!
            · exact e
            · exact absurd (keeps_pos e) hk
          exact ⟨j - 1, by omega, by rw [← he]; exact e⟩
        · exact ⟨j, by omega, e⟩
/-- The lines of some places, rising, each once. -/
def linesOf (zs : List Int) : List Int := ((List.range 8192).filter fun (k : Nat) => decide ((k : Int) ∈ zs)).map fun (k : Nat) => (k : Int)
theorem linesOf_rising (zs : List Int) : (linesOf zs).Pairwise (· < ·) := by
  unfold linesOf
  rw [List.pairwise_map]
  refine List.Pairwise.imp ?_ (List.Pairwise.filter _ List.pairwise_lt_range)
  intro a b h; omega
theorem linesOf_mem {zs : List Int} (h : ∀ z ∈ zs, 0 ≤ z ∧ z < 8192) (x : Int) : x ∈ linesOf zs ↔ x ∈ zs := by
  unfold linesOf
  simp only [List.mem_map, List.mem_filter, List.mem_range, decide_eq_true_eq]
  constructor
  · rintro ⟨k, ⟨_, hk⟩, rfl⟩; exact hk
  · intro hx
    obtain ⟨h0, h1⟩ := h x hx
    exact ⟨x.toNat, ⟨by omega, by rw [show ((x.toNat : Nat) : Int) = x by omega]; exact hx⟩, by omega⟩
theorem compact_sort {zs : List Int} (h : ∀ z ∈ zs, 0 ≤ z ∧ z < 8192) : Lib.compact (sortL zs) = linesOf zs := by
  have hs : (sortL zs).Pairwise (fun x y => decide (x ≤ y) = true) := List.pairwise_mergeSort (fun a b c h1 h2 => by simp only [decide_eq_true_eq] at *; omega) (fun a b => by simp only [Bool.or_eq_true, decide_eq_true_eq]; omega) zs
  have hd : ∀ i j, i < j → j < (sortL zs).toArray.size → (sortL zs).toArray[i]! ≤ (sortL zs).toArray[j]! := by
    intro i j hij hj
    have hj' : j < (sortL zs).length := by simpa using hj
    have hi' : i < (sortL zs).length := by omega
    have := List.pairwise_iff_getElem.1 hs i j hi' hj' hij
    simpa [hi', hj'] using this
  obtain ⟨h1, h2⟩ := compactUpTo_rising (sortL zs).toArray hd (sortL zs).length (by simp)
  refine rising_ext h1 (linesOf_rising zs) (fun x => ?_)
  rw [linesOf_mem h]
  unfold compact
  rw [h2]
  have hp : x ∈ sortL zs ↔ x ∈ zs := List.mem_mergeSort
  rw [← hp]
  constructor
  · rintro ⟨j, hj, e⟩
    rw [← e]
    have : (sortL zs).toArray[j]! = (sortL zs)[j] := by simp [hj]
    rw [this]; exact List.getElem_mem hj
  · intro hx
    obtain ⟨j, hj, e⟩ := List.getElem_of_mem hx
    exact ⟨j, hj, by simp [hj, e]⟩

end Go.Proofs.Ytkopfnldgnkkoaa
