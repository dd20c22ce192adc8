/-
  THE TABLE OF KINDS, ASKED.
-/
import Derived.Test.YtphcdndohdnolaaRqJ
namespace Go.Proofs.Ytphcdndohdnolaa
open Go.RowKit Go.Shelf
set_option linter.unusedVariables false

/-- A slice of fields; nil, if there are none. -/
def SliceOf (lo : Nat) (w : World) (a : Option Addr) (fs : List Fd) : Prop :=
  (fs = [] ∧ a = none) ∨ ∃ b, a = some ⟨b, 0, none⟩ ∧ lo ≤ b ∧ ∀ j, j < fs.length → ∃ p g, w.cell? ⟨b, j * 2, none⟩ = some p ∧ w.cell? ⟨b, j * 2 + 1, none⟩ = some g ∧ FieldIs lo w (fs[j]?.getD .flags) p g
theorem SliceOf.nw {lo : Nat} {w w' : World} {a : Option Addr} {fs : List Fd} (h : SliceOf lo w a fs) (k : Nw w w') : SliceOf lo w' a fs := by
  rcases h with h | ⟨b, h1, h2, h3⟩
  · exact .inl h
  · refine .inr ⟨b, h1, h2, fun j hj => ?_⟩
    obtain ⟨p, g, c1, c2, hf⟩ := h3 j hj
    exact ⟨p, g, (k.b.cell (p := ⟨b, j * 2, none⟩) (cell_lt c1).1).trans c1, (k.b.cell (p := ⟨b, j * 2 + 1, none⟩) (cell_lt c2).1).trans c2, hf.nw k⟩
theorem SliceOf.up2 {lo t b : Nat} {w w' : World} {a : Option Addr} {fs : List Fd} (h : SliceOf lo w a fs) (k : Up2 t b w w') (ht : t < lo) (hb : b < lo) : SliceOf lo w' a fs := by
  rcases h with h | ⟨s, h1, h2, h3⟩
  · exact .inl h
  · refine .inr ⟨s, h1, h2, fun j hj => ?_⟩
    obtain ⟨p, g, c1, c2, hf⟩ := h3 j hj
    exact ⟨p, g, k.cell c1 (by dsimp only; omega) (by dsimp only; omega), k.cell c2 (by dsimp only; omega) (by dsimp only; omega), hf.up2 k ht hb⟩

theorem zero_fields (w : World) : (zeroValue 54).run Try.prog w = .ok (.slice none 0 0) w := by kernel_rfl
theorem fdsOf_unknown {k : Int} (h : known k = false) : fdsOf k = [] := by
  have : ¬ (1 ≤ k ∧ k ≤ 13) := by
    rintro ⟨h1, h2⟩
    simp [known, h1, h2] at h
  unfold fdsOf
  rw [if_neg (by omega), if_neg (by omega), if_neg (by omega), if_neg (by omega), if_neg (by omega), if_neg (by omega), if_neg (by omega), if_neg (by omega), if_neg (by omega), if_neg (by omega), if_neg (by omega), if_neg (by omega), if_neg (by omega)]
/-- A list with these keys. -/
theorem keys_cases {vs : List (Int × Value)} (h : vs.map (·.1) = kindsL.map (·.1)) : ∃ v0 v1 v2 v3 v4 v5 v6 v7 v8 v9 v10 v11 v12, vs = [(1, v0), (2, v1), (3, v2), (4, v3), (5, v4), (6, v5), (13, v6), (7, v7), (8, v8), (9, v9), (11, v10), (10, v11), (12, v12)] := by
  have hl : vs.length = 13 := by have := congrArg List.length h; simpa [kindsL] using this
  rcases vs with _ | ⟨⟨k0, v0⟩, vs⟩
  · simp at hl
  rcases vs with _ | ⟨⟨k1, v1⟩, vs⟩
  · simp at hl
  rcases vs with _ | ⟨⟨k2, v2⟩, vs⟩
  · simp at hl
  rcases vs with _ | ⟨⟨k3, v3⟩, vs⟩
  · simp at hl
  rcases vs with _ | ⟨⟨k4, v4⟩, vs⟩
  · simp at hl
  rcases vs with _ | ⟨⟨k5, v5⟩, vs⟩
  · simp at hl
  rcases vs with _ | ⟨⟨k6, v6⟩, vs⟩
  · simp at hl
  rcases vs with _ | ⟨⟨k7, v7⟩, vs⟩
  · simp at hl
  rcases vs with _ | ⟨⟨k8, v8⟩, vs⟩
  · simp at hl
  rcases vs with _ | ⟨⟨k9, v9⟩, vs⟩
  · simp at hl
  rcases vs with _ | ⟨⟨k10, v10⟩, vs⟩
  · simp at hl
  rcases vs with _ | ⟨⟨k11, v11⟩, vs⟩
  · simp at hl
  rcases vs with _ | ⟨⟨k12, v12⟩, vs⟩
  · simp at hl
  obtain rfl : vs = [] := by
    cases vs with
    | nil => rfl
    | cons y vs => simp at hl
  simp only [kindsL, List.map_cons, List.map_nil, List.cons.injEq, and_true] at h
  obtain ⟨rfl, rfl, rfl, rfl, rfl, rfl, rfl, rfl, rfl, rfl, rfl, rfl, rfl⟩ := h
  exact ⟨v0, v1, v2, v3, v4, v5, v6, v7, v8, v9, v10, v11, v12, rfl⟩

theorem SliceOf.of_at {lo : Nat} {W8 X : World} {M : Nat} {v : Value} {fs : List Fd} (hM : lo ≤ M) (hU : Up M W8 X) (he : M = W8.heap.size) (h : FieldsAt lo W8 X M v fs) : ∃ a, v = .slice a fs.length fs.length ∧ SliceOf lo X a fs := by
  subst he
  obtain ⟨b, h1, h2, h3, h4⟩ := h
  refine ⟨_, h1, .inr ⟨b, rfl, by omega, fun j hj => ?_⟩⟩
  obtain ⟨p, g, c1, c2, hf⟩ := h4 j hj
  exact ⟨p, g, c1, c2, hf.upHeap hU⟩

/-- What the table answers. -/
def TabAt (lo : Nat) (X : World) (M : Nat) (k : Int) : Prop :=
  ∃ a, SliceOf lo X a (fdsOf k) ∧ (Instr.lookup 56 (.map (some M)) (.int .u8 k) false).run Try.prog X = .ok (.slice a (fdsOf k).length (fdsOf k).length) X ∧ (Instr.lookup 56 (.map (some M)) (.int .u8 k) true).run Try.prog X = .ok (.tuple #[.slice a (fdsOf k).length (fdsOf k).length, .bool (known k)]) X
theorem table_at {lo : Nat} {W8 X : World} {M : Nat} (hM : lo ≤ M) (he : M = W8.heap.size) (h : KI lo W8 X M kindsL) (k : Int) : TabAt lo X M k := by
  obtain ⟨hU, vs, h1, h2, h3⟩ := h
  have hL := fun ok => h2.lookup (P := Try.prog) Try.underlying56 Try.underlying5 _ (zero_fields X) k ok
  obtain ⟨v0, v1, v2, v3, v4, v5, v6, v7, v8, v9, v10, v11, v12, rfl⟩ := keys_cases h1
  by_cases hk : known k = true
  · rcases known_cases hk with rfl | rfl | rfl | rfl | rfl | rfl | rfl | rfl | rfl | rfl | rfl | rfl | rfl
    · obtain ⟨v, hv, hf⟩ := h3 0 (by decide)
      obtain rfl : v0 = v := by simpa [kindsL] using hv
      obtain ⟨a, rfl, hs⟩ := SliceOf.of_at hM hU he hf
      exact ⟨a, hs, hL false, hL true⟩
    · obtain ⟨v, hv, hf⟩ := h3 1 (by decide)
      obtain rfl : v1 = v := by simpa [kindsL] using hv
      obtain ⟨a, rfl, hs⟩ := SliceOf.of_at hM hU he hf
      exact ⟨a, hs, hL false, hL true⟩
    · obtain ⟨v, hv, hf⟩ := h3 2 (by decide)
      obtain rfl : v2 = v := by simpa [kindsL] using hv
      obtain ⟨a, rfl, hs⟩ := SliceOf.of_at hM hU he hf
      exact ⟨a, hs, hL false, hL true⟩
    · obtain ⟨v, hv, hf⟩ := h3 3 (by decide)
      obtain rfl : v3 = v := by simpa [kindsL] using hv
      obtain ⟨a, rfl, hs⟩ := SliceOf.of_at hM hU he hf
      exact ⟨a, hs, hL false, hL true⟩
    · obtain ⟨v, hv, hf⟩ := h3 4 (by decide)
      obtain rfl : v4 = v := by simpa [kindsL] using hv
      obtain ⟨a, rfl, hs⟩ := SliceOf.of_at hM hU he hf
      exact ⟨a, hs, hL false, hL true⟩
    · obtain ⟨v, hv, hf⟩ := h3 5 (by decide)
      obtain rfl : v5 = v := by simpa [kindsL] using hv
      obtain ⟨a, rfl, hs⟩ := SliceOf.of_at hM hU he hf
      exact ⟨a, hs, hL false, hL true⟩
    · obtain ⟨v, hv, hf⟩ := h3 7 (by decide)
      obtain rfl : v7 = v := by simpa [kindsL] using hv
      obtain ⟨a, rfl, hs⟩ := SliceOf.of_at hM hU he hf
      exact ⟨a, hs, hL false, hL true⟩
    · obtain ⟨v, hv, hf⟩ := h3 8 (by decide)
      obtain rfl : v8 = v := by simpa [kindsL] using hv
      obtain ⟨a, rfl, hs⟩ := SliceOf.of_at hM hU he hf
      exact ⟨a, hs, hL false, hL true⟩
    · obtain ⟨v, hv, hf⟩ := h3 9 (by decide)
      obtain rfl : v9 = v := by simpa [kindsL] using hv
      obtain ⟨a, rfl, hs⟩ := SliceOf.of_at hM hU he hf
      exact ⟨a, hs, hL false, hL true⟩
    · obtain ⟨v, hv, hf⟩ := h3 11 (by decide)
      obtain rfl : v11 = v := by simpa [kindsL] using hv
      obtain ⟨a, rfl, hs⟩ := SliceOf.of_at hM hU he hf
      exact ⟨a, hs, hL false, hL true⟩
    · obtain ⟨v, hv, hf⟩ := h3 10 (by decide)
      obtain rfl : v10 = v := by simpa [kindsL] using hv
      obtain ⟨a, rfl, hs⟩ := SliceOf.of_at hM hU he hf
      exact ⟨a, hs, hL false, hL true⟩
    · obtain ⟨v, hv, hf⟩ := h3 12 (by decide)
      obtain rfl : v12 = v := by simpa [kindsL] using hv
      obtain ⟨a, rfl, hs⟩ := SliceOf.of_at hM hU he hf
      exact ⟨a, hs, hL false, hL true⟩
    · obtain ⟨v, hv, hf⟩ := h3 6 (by decide)
      obtain rfl : v6 = v := by simpa [kindsL] using hv
      obtain ⟨a, rfl, hs⟩ := SliceOf.of_at hM hU he hf
      exact ⟨a, hs, hL false, hL true⟩
  · have hk' : known k = false := by simpa using hk
    have hn : ¬ (1 ≤ k ∧ k ≤ 13) := by rintro ⟨q1, q2⟩; simp [known, q1, q2] at hk'
    have hfind : ([(1, v0), (2, v1), (3, v2), (4, v3), (5, v4), (6, v5), (13, v6), (7, v7), (8, v8), (9, v9), (11, v10), (10, v11), (12, v12)] : List (Int × Value)).find? (fun y => y.1 == k) = none := by
      rw [List.find?_eq_none]
      intro y hy
      simp only [List.mem_cons, List.not_mem_nil, or_false] at hy
      rcases hy with rfl | rfl | rfl | rfl | rfl | rfl | rfl | rfl | rfl | rfl | rfl | rfl | rfl <;> (simp only [beq_iff_eq]; omega)
    rw [hfind] at hL
    refine ⟨none, .inl ⟨fdsOf_unknown hk', rfl⟩, ?_, ?_⟩
    · rw [fdsOf_unknown hk']; exact hL false
    · rw [fdsOf_unknown hk', hk']; exact hL true

end Go.Proofs.Ytphcdndohdnolaa
