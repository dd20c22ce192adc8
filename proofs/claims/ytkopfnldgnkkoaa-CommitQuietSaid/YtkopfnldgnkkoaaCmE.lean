/-
  RUNS: Clone of writes and of words; Begin.
-/
import Derived.Test.YtkopfnldgnkkoaaCmD
import Derived.Test.YtkopfnldgnkkoaaRcL
namespace Go.Proofs.Ytkopfnldgnkkoaa
open Go.RowKit Go.Shelf
set_option linter.unusedVariables false

attribute [local go_sem] Lib.run_eql_slice_nil in
set_option maxHeartbeats 2000000 in
theorem cloneW_nil (w : World) :
    Calls Try.prog 48 #[.slice none 0 0] w fun e w' => e = .returned (.slice none 0 0) ∧ w = w' := by
  have hu := Try.underlying36
  go_enter Try.func48, Try.ntmps48
  go_wp2_with fail
  go_ret
  exact ⟨rfl, rfl⟩
theorem pairs_cells {n₀ : Nat} {w : World} {b off : Nat} {l : List Wr} (h : Pairs .i64 .u64 n₀ w (some ⟨b, off, none⟩) l) (j : Nat) (u : Value) (hj : (prC l)[j]? = some u) : w.cell? ((⟨b, off, none⟩ : Addr).add j) = some u := by
  rw [Addr.add_lit]
  rcases h with rfl | ⟨b', off', e, _, hc⟩
  · simp [prC] at hj
  · cases e
    have hlt := (List.getElem?_eq_some_iff.1 hj).1
    rw [prC_len] at hlt
    obtain ⟨e1, e2⟩ := prC_at l (j / 2) (by omega)
    obtain ⟨c1, c2⟩ := hc (j / 2) (by omega)
    rcases Nat.mod_two_eq_zero_or_one j with h0 | h0
    · rw [show j / 2 * 2 = j by omega] at e1
      rw [show off + j / 2 * 2 = off + j by omega] at c1
      rw [hj] at e1; cases e1; exact c1
    · rw [show j / 2 * 2 + 1 = j by omega] at e2
      rw [show off + j / 2 * 2 + 1 = off + j by omega] at c2
      rw [hj] at e2; cases e2; exact c2
theorem prC_one (l : List Wr) : ∀ u ∈ prC l, u.oneCell' = true := by
  intro u hu
  simp only [prC, List.mem_flatMap, List.mem_cons, List.not_mem_nil, or_false] at hu
  obtain ⟨x, _, rfl | rfl⟩ := hu <;> rfl
/-- What Clone of writes tells. -/
def CloneW (w : World) (l : List Wr) (e : Ending) (w' : World) : Prop :=
  ∃ a c, e = .returned (.slice a l.length c) ∧ l.length ≤ c ∧ Pairs .i64 .u64 w'.heap.size w' a l ∧ Nw w w' ∧ ∀ p, a = some p → w.heap.size ≤ p.block
attribute [local go_sem] Lib.run_eql_slice_nil in
set_option maxHeartbeats 2000000 in
theorem cloneW_some (b off n c n₀ : Nat) (l : List Wr) (hx : l.length = n) (hn : n ≤ 1000000) (w : World) (hn₀ : n₀ ≤ w.heap.size) (hI : Pairs .i64 .u64 n₀ w (some ⟨b, off, none⟩) l) :
    Calls Try.prog 48 #[.slice (some ⟨b, off, none⟩) n c] w (CloneW w l) := by
  obtain ⟨i0, hi, hz0, hz1, hz2⟩ := info_parts8 info_wr
  have hu := Try.underlying36
  have HX := Lib.hid hx
  have HI := Lib.hid hI
  clear hx hI
  go_enter Try.func48, Try.ntmps48
  have how : ∀ W, Nw (w.alloc (.cells #[] 41)) W → W.ownsRow w.heap.size 41 2 (.slice (some ⟨w.heap.size, 0, none⟩) 0 0) 0 ([] : List Value) := fun W k =>
    ⟨rfl, .inr ⟨w.heap.size, 0, #[], rfl, Nat.le_refl _, (k.b.block w.heap.size (by simp)).trans (heap_alloc_new w _), Nat.le_refl _, Nat.zero_le _, rfl, rfl⟩⟩
  have hbel : Below w.heap.size w (w.alloc (.cells #[] 41)) := (Below.refl _ w).alloc (Nat.le_refl _) _
  have HC := Lib.hid (pairs_cells (HI.out.below (hbel.mono hn₀)))
  go_wp2_with (first | (at_builtin; go_loud (refine wpList_append_own _ rfl (.tmp 5) (.tmp 6) 36 rfl w.heap.size 41 i0 (.agg #[.int .i64 0, .int .u64 0]) 2 16 Try.underlying36 hi hz0 hz1 hz2 rfl (by decide) _ 0 _ rfl (how _ Nw.refl) ⟨b, off, none⟩ n c (prC l) rfl (by rw [prC_len, HX.out]) HC.out (prC_one l) (by unfold maxLen; omega) (by omega) (by simp) ?_); intro v3 w3 hown3 hgrow3 _; have hb3 : Below w.heap.size w w3 := Below.grownRow hbel hgrow3 (by simp) (how _ Nw.refl) (Nat.le_refl _); clear hgrow3) | fail)
  go_ret
  simp only [List.nil_append, Nat.zero_add] at hown3
  rw [← HX.out] at hown3
  obtain ⟨a', c', rfl, hc', hP'⟩ := Pairs.of_owns hown3
  exact ⟨a', c', rfl, hc', hP', ⟨hb3⟩, own_fresh hown3⟩
/-- The shapes of slices: nil, or in a block. -/
def Shp (a : Option Addr) (n c : Nat) : Prop := (a = none ∧ n = 0 ∧ c = 0) ∨ ∃ b off, a = some ⟨b, off, none⟩
theorem own_shp {w : World} {base : Nat} {e : TypeId} {sz : Nat} {a : Option Addr} {m c n : Nat} {xs : List Value} (h : w.ownsRow base e sz (.slice a m c) n xs) : Shp a m c := by
  rcases h.2 with ⟨h1, _⟩ | ⟨g, cap, cur, hv, _⟩
  · cases h1; exact .inl ⟨rfl, rfl, rfl⟩
  · cases hv; exact .inr ⟨g, 0, rfl⟩
theorem cloneW_any (a : Option Addr) (n c n₀ : Nat) (l : List Wr) (hx : l.length = n) (ha : Shp a n c) (hn : n ≤ 1000000) (w : World) (hn₀ : n₀ ≤ w.heap.size) (hI : Pairs .i64 .u64 n₀ w a l) :
    Calls Try.prog 48 #[.slice a n c] w (CloneW w l) := by
  rcases ha with ⟨rfl, rfl, rfl⟩ | ⟨b, off, rfl⟩
  · obtain rfl : l = [] := List.length_eq_zero_iff.1 hx
    refine (cloneW_nil w).mono ?_
    rintro e w' ⟨rfl, rfl⟩
    exact ⟨none, 0, rfl, Nat.le_refl _, .inl rfl, Nw.refl, fun p hp => by cases hp⟩
  · exact cloneW_some b off n c n₀ l hx hn w hn₀ hI

attribute [local go_sem] Lib.run_eql_slice_nil in
set_option maxHeartbeats 2000000 in
theorem cloneU_nil (w : World) :
    Calls Try.prog 50 #[.slice none 0 0] w (OwnU w []) := by
  have hu := Try.underlying30
  go_enter Try.func50, Try.ntmps50
  go_wp2_with fail
  go_ret
  exact ⟨_, rfl, World.ownsRow_nil _ _ _ _, Nw.refl⟩
attribute [local go_sem] Lib.run_eql_slice_nil in
set_option maxHeartbeats 2000000 in
theorem cloneU_some (b off n c n₀ : Nat) (zs : List Int) (hx : zs.length = n) (hn : n ≤ 1000000) (w : World) (hn₀ : n₀ ≤ w.heap.size) (hI : Ints n₀ .u64 w (some ⟨b, off, none⟩) zs) :
    Calls Try.prog 50 #[.slice (some ⟨b, off, none⟩) n c] w (OwnU w zs) := by
  obtain ⟨i0, hi, hz0, hz1, hz2⟩ := info_parts8 info_u64
  have hu := Try.underlying30
  have HX := Lib.hid hx
  have HI := Lib.hid hI
  clear hx hI
  go_enter Try.func50, Try.ntmps50
  have how : ∀ W, Nw (w.alloc (.cells #[] 39)) W → W.ownsRow w.heap.size 39 1 (.slice (some ⟨w.heap.size, 0, none⟩) 0 0) 0 ([] : List Value) := fun W k =>
    ⟨rfl, .inr ⟨w.heap.size, 0, #[], rfl, Nat.le_refl _, (k.b.block w.heap.size (by simp)).trans (heap_alloc_new w _), Nat.le_refl _, Nat.zero_le _, rfl, rfl⟩⟩
  have hbel : Below w.heap.size w (w.alloc (.cells #[] 39)) := (Below.refl _ w).alloc (Nat.le_refl _) _
  have HC := Lib.hid (HI.out.below (hbel.mono hn₀))
  go_wp2_with (first | (at_builtin; go_loud (refine wpList_append_ints _ rfl (.tmp 5) (.tmp 6) 30 rfl w.heap.size 39 i0 (.int .u64 0) 8 Try.underlying30 hi hz0 hz1 hz2 rfl _ 0 _ rfl (how _ Nw.refl) _ n c .u64 zs _ rfl HX.out HC.out (by unfold maxLen; omega) (by omega) (by simp) ?_); intro v3 w3 hown3 hgrow3; have hb3 : Below w.heap.size w w3 := Below.grownRow hbel hgrow3 (by simp) (how _ Nw.refl) (Nat.le_refl _); clear hgrow3) | fail)
  go_ret
  simp only [List.nil_append, Nat.zero_add] at hown3
  exact ⟨_, rfl, by rw [HX.out]; exact hown3, ⟨hb3⟩⟩
theorem cloneU_any (a : Option Addr) (n c n₀ : Nat) (zs : List Int) (hx : zs.length = n) (ha : Shp a n c) (hn : n ≤ 1000000) (w : World) (hn₀ : n₀ ≤ w.heap.size) (hI : Ints n₀ .u64 w a zs) :
    Calls Try.prog 50 #[.slice a n c] w (OwnU w zs) := by
  rcases ha with ⟨rfl, rfl, rfl⟩ | ⟨b, off, rfl⟩
  · obtain rfl : zs = [] := List.length_eq_zero_iff.1 hx
    exact cloneU_nil w
  · exact cloneU_some b off n c n₀ zs hx hn w hn₀ hI

end Go.Proofs.Ytkopfnldgnkkoaa
