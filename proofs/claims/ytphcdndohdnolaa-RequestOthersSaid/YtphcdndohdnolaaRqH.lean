/-
  THE WALKS OF request.text, request.number.
-/
import Derived.Test.YtphcdndohdnolaaRqK
namespace Go.Proofs.Ytphcdndohdnolaa
open Go.RowKit Go.Shelf
set_option linter.unusedVariables false

def TextIs (lo : Nat) (w : World) (f : Fd) (p g : Value) : Prop := ∃ B2 B : Nat, lo ≤ B2 ∧ lo ≤ B ∧ p = .func (.func 50) #[] #[.pointer (some ⟨B, 0, none⟩)] ∧ g = .func (.func 51) #[] #[.pointer (some ⟨B2, 0, none⟩), .pointer (some ⟨B, 0, none⟩)] ∧ w.cell? ⟨B, 0, none⟩ = some (.func (.func (ofF f)) #[] #[]) ∧ w.cell? ⟨B2, 0, none⟩ = some (.int .i64 (txtMost f))
def NumIs (lo : Nat) (w : World) (f : Fd) (p g : Value) : Prop := ∃ B : Nat, lo ≤ B ∧ p = .func (.func 53) #[] #[.pointer (some ⟨B, 0, none⟩)] ∧ g = .func (.func 54) #[] #[.pointer (some ⟨B, 0, none⟩)] ∧ w.cell? ⟨B, 0, none⟩ = some (.func (.func (ofF f)) #[] #[])
theorem fieldIs_text {lo : Nat} {w : World} {f : Fd} (hf : isTxt f = true) {p g : Value} : FieldIs lo w f p g ↔ TextIs lo w f p g := by
  cases f <;> first | (cases hf; done) | exact Iff.rfl
theorem fieldIs_num {lo : Nat} {w : World} {f : Fd} (hf : isTxt f = false) (hff : f ≠ .flags) {p g : Value} : FieldIs lo w f p g ↔ NumIs lo w f p g := by
  cases f <;> first | (cases hf; done) | exact absurd rfl hff | exact Iff.rfl
theorem FieldIs.nw {lo : Nat} {w w' : World} {f : Fd} {p g : Value} (h : FieldIs lo w f p g) (k : Nw w w') : FieldIs lo w' f p g := by
  by_cases hf : isTxt f = true
  · obtain ⟨B2, B, h1, h2, h3, h4, h5, h6⟩ := (fieldIs_text hf).1 h
    exact (fieldIs_text hf).2 ⟨B2, B, h1, h2, h3, h4, (k.b.cell (p := ⟨B, 0, none⟩) (cell_lt h5).1).trans h5, (k.b.cell (p := ⟨B2, 0, none⟩) (cell_lt h6).1).trans h6⟩
  · have hf' : isTxt f = false := by simpa using hf
    by_cases hff : f = .flags
    · subst hff; exact h
    · obtain ⟨B, h1, h2, h3, h4⟩ := (fieldIs_num hf' hff).1 h
      exact (fieldIs_num hf' hff).2 ⟨B, h1, h2, h3, (k.b.cell (p := ⟨B, 0, none⟩) (cell_lt h4).1).trans h4⟩
theorem FieldIs.up2 {lo t b : Nat} {w w' : World} {f : Fd} {p g : Value} (h : FieldIs lo w f p g) (k : Up2 t b w w') (ht : t < lo) (hb : b < lo) : FieldIs lo w' f p g := by
  by_cases hf : isTxt f = true
  · obtain ⟨B2, B, h1, h2, h3, h4, h5, h6⟩ := (fieldIs_text hf).1 h
    exact (fieldIs_text hf).2 ⟨B2, B, h1, h2, h3, h4, k.cell h5 (by dsimp only; omega) (by dsimp only; omega), k.cell h6 (by dsimp only; omega) (by dsimp only; omega)⟩
  · have hf' : isTxt f = false := by simpa using hf
    by_cases hff : f = .flags
    · subst hff; exact h
    · obtain ⟨B, h1, h2, h3, h4⟩ := (fieldIs_num hf' hff).1 h
      exact (fieldIs_num hf' hff).2 ⟨B, h1, h2, h3, k.cell h4 (by dsimp only; omega) (by dsimp only; omega)⟩
theorem FieldIs.mono {lo lo' : Nat} {w : World} {f : Fd} {p g : Value} (h : FieldIs lo w f p g) (hl : lo' ≤ lo) : FieldIs lo' w f p g := by
  by_cases hf : isTxt f = true
  · obtain ⟨B2, B, h1, h2, h3, h4, h5, h6⟩ := (fieldIs_text hf).1 h
    exact (fieldIs_text hf).2 ⟨B2, B, by omega, by omega, h3, h4, h5, h6⟩
  · have hf' : isTxt f = false := by simpa using hf
    by_cases hff : f = .flags
    · subst hff; exact h
    · obtain ⟨B, h1, h2, h3, h4⟩ := (fieldIs_num hf' hff).1 h
      exact (fieldIs_num hf' hff).2 ⟨B, by omega, h2, h3, h4⟩

/-- What the making of a field tells. -/
def FldR (f : Fd) (w : World) (e : Ending) (w' : World) : Prop := ∃ p g, e = .returned (.agg #[p, g]) ∧ FieldIs w.heap.size w' f p g ∧ Nw w w'

set_option maxHeartbeats 2000000 in
theorem mk_text (f : Fd) (hf : isTxt f = true) (w : World) : Calls Try.prog 39 #[.int .i64 (txtMost f), .func (.func (ofF f)) #[] #[]] w (FldR f w) := by
  have HF := Lib.hid hf
  generalize hm : txtMost f = m
  generalize hn : ofF f = N
  have HM := Lib.hid hm
  have HN := Lib.hid hn
  clear hf hm hn
  go_enter Try.func39, Try.ntmps39
  go_wp2_with fail
  refine bodyPost_ret (v := .agg #[.func (.func 50) #[] #[.pointer (some ⟨w.heap.size + 1, 0, none⟩)], .func (.func 51) #[] #[.pointer (some ⟨w.heap.size, 0, none⟩), .pointer (some ⟨w.heap.size + 1, 0, none⟩)]]) (by simp [results, Try.results39, go_sem]) rfl ?_
  refine ⟨_, _, rfl, (fieldIs_text HF.out).2 ⟨w.heap.size, w.heap.size + 1, Nat.le_refl _, by omega, rfl, rfl, ?_, ?_⟩, ((Nw.refl.alloc _).alloc _).alloc _⟩
  · rw [HN.out]; simp [go_sem]
  · rw [HM.out]; simp [go_sem]

set_option maxHeartbeats 2000000 in
theorem mk_num (f : Fd) (hf : isTxt f = false) (hff : f ≠ .flags) (w : World) : Calls Try.prog 43 #[.func (.func (ofF f)) #[] #[]] w (FldR f w) := by
  have HF := Lib.hid hf
  have HFF := Lib.hid hff
  generalize hn : ofF f = N
  have HN := Lib.hid hn
  clear hf hn hff
  go_enter Try.func43, Try.ntmps43
  go_wp2_with fail
  refine bodyPost_ret (v := .agg #[.func (.func 53) #[] #[.pointer (some ⟨w.heap.size, 0, none⟩)], .func (.func 54) #[] #[.pointer (some ⟨w.heap.size, 0, none⟩)]]) (by simp [results, Try.results43, go_sem]) rfl ?_
  refine ⟨_, _, rfl, (fieldIs_num HF.out HFF.out).2 ⟨w.heap.size, Nat.le_refl _, rfl, rfl, ?_⟩, (Nw.refl.alloc _).alloc _⟩
  rw [HN.out]; simp [go_sem]

end Go.Proofs.Ytphcdndohdnolaa
