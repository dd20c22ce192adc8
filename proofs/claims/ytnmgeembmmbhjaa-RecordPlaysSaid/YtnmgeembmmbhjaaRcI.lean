/-
  THE WALK OF grommetlaw08.works.
-/
import Derived.Test.YtnmgeembmmbhjaaRcG
import Derived.Test.YtnmgeembmmbhjaaRcH
namespace Go.Proofs.Ytnmgeembmmbhjaa
open Go.RowKit Go.Shelf
set_option linter.unusedVariables false

/-- What Words tells, as a caller has it. -/
theorem WordsR.own {w w' : World} {l : List Wr} {e : Ending} (h : WordsR w l e w') {n : Nat} (hn : (wordsL l).length = n) :
    ∃ a cap, e = .returned (.tuple #[.slice a n cap, .int .i64 (wordsE l)]) ∧ n ≤ cap ∧ Ints w'.heap.size .u64 w' a (wordsL l) ∧ Nw w w' := by
  obtain ⟨a, cap, rfl, h2, h3, h4⟩ := h
  exact ⟨a, cap, by rw [hn], by rw [← hn]; exact h2, h3, h4⟩
theorem ReadR.own {g : G} {ws : List Int} {w w' : World} {e : Ending} (h : ReadR g ws w e w') {n : Nat} (hn : (readL g ws).length = n) :
    ∃ a cap, e = .returned (.tuple #[.slice a n cap, .int .i64 (readE g ws)]) ∧ n ≤ cap ∧ Pairs .i64 .u64 w'.heap.size w' a (readL g ws) ∧ Nw w w' := by
  obtain ⟨a, cap, rfl, h2, h3, h4⟩ := h
  exact ⟨a, cap, by rw [hn], by rw [← hn]; exact h2, h3, h4⟩

def rec0 : List Int := [0, 12638153115695167455]
theorem rec0_eq : wordsL [] = rec0 := by decide +kernel
theorem read0 : readL ⟨1, 2, 2⟩ rec0 = [] := by decide +kernel
theorem read0e : readE ⟨1, 2, 2⟩ rec0 = 0 := by decide +kernel
theorem readn : readL ⟨1, 2, 2⟩ [] = [] := by decide +kernel
theorem readne : readE ⟨1, 2, 2⟩ [] = 4 := by decide +kernel
theorem rec0_u : ∀ n ∈ rec0, u64 n := by intro n hn; simp [rec0] at hn; unfold u64; omega
theorem mark0 : markV rec0 = 13640424713336324097 := by decide +kernel
theorem markn : markV [] = 0 := by decide +kernel

set_option maxRecDepth 100000 in
set_option maxHeartbeats 2000000 in
theorem works_ok (w : World) :
    Calls Try.prog 8 #[] w fun e w' => e = .returned (.bool true) ∧ Nw w w' := by
  have B0 := Box.new w ⟨1, 2, 2⟩ 23
  have hn0 : Nw w (w.alloc (.cells #[.int .i64 1, .int .i64 2, .int .i64 2] 23)) := Nw.refl.alloc _
  dsimp only at B0
  go_enter Try.func8, Try.ntmps8
  go_wp2_with fail
  refine (words_any none 0 0 [] (by simp) _ (Nat.zero_le _) (.inl rfl) (by simp)).mono ?_
  intro e w1 h1
  obtain ⟨a1, c1, rfl, hc1, hI1, hN1⟩ := h1.own (n := 2) (by rw [rec0_eq]; rfl)
  rw [show wordsE [] = 0 from rfl]
  rw [rec0_eq] at hI1
  have B1 := B0.at ⟨hN1.b⟩
  have hn1 := hn0.trans hN1
  have b0 := B1.c0
  have b1 := B1.c1
  have b2 := B1.c2
  clear hn0 hN1 B0 h1
  go_wp2_with fail
  refine (read_any ⟨1, 2, 2⟩ a1 c1 _ rec0 hc1 rec0_u (by decide) w1 (Nat.le_refl _) hI1).mono ?_
  intro e w2 h2
  obtain ⟨a2, c2, rfl, hc2, _, hN2⟩ := h2.own (n := 0) (by rw [read0]; rfl)
  rw [read0e]
  have hI2 := Ints.nw (n := 0) hN2 hI1
  have B2 := B1.at ⟨hN2.b⟩
  have hn2 := hn1.trans hN2
  clear hn1 hN2 B1 hI1 h2 b0 b1 b2
  have b0 := B2.c0
  have b1 := B2.c1
  have b2 := B2.c2
  dsimp only at b0 b1 b2
  go_wp2_with fail
  refine (read_any ⟨1, 2, 2⟩ none 0 0 [] (Nat.le_refl _) (by simp) (by decide) w2 (Nat.zero_le _) (.inl rfl)).mono ?_
  intro e w3 h3
  obtain ⟨a3, c3, rfl, hc3, _, hN3⟩ := h3.own (n := 0) (by rw [readn]; rfl)
  rw [readne]
  have hI3 := Ints.nw (n := 0) hN3 hI2
  have hn3 := hn2.trans hN3
  obtain ⟨b, off, rfl, _, c0⟩ := hI3.at (j := 0) (by decide)
  rw [Nat.add_zero] at c0
  clear hn2 hN3 B2 hI2 h3 b0 b1 b2
  have hM := mark_any (some ⟨b, off, none⟩) c1 _ rec0 hc1 rec0_u (by decide) w3 hI3
  rw [mark0] at hM
  have HM := Lib.hid hM
  clear hM
  go_wp2_with fail
  refine HM.out.mono ?_
  rintro e w' ⟨rfl, m, rfl⟩
  clear c0
  go_wp2_with fail
  have hM := mark_any none 0 0 [] (Nat.le_refl _) (by simp) (by decide) (w3.drewN m) (.inl rfl)
  rw [markn] at hM
  refine hM.mono ?_
  rintro e w' ⟨rfl, m', rfl⟩
  clear hM
  go_wp2_with fail
  go_ret
  exact ⟨rfl, hn3.drewN _⟩

end Go.Proofs.Ytnmgeembmmbhjaa
