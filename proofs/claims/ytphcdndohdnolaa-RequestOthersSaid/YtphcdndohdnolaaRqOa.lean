/-
  PLAIN LAWS FOR RequestOthers: of a request that may be, how many that are like it but in one field may be.
-/
import Derived.Test.YtphcdndohdnolaaRqZ
namespace Go.Proofs.Ytphcdndohdnolaa
open Go.RowKit Go.Shelf
set_option linter.unusedVariables false

def exB : ByteArray := ⟨#[120]⟩
/-- The request with something more in one field. -/
def varQ (r : Rq) : Nat → Rq
  | 0 => { r with fd := (r.fd + 1) % 18446744073709551616 }
  | 1 => { r with pos := (r.pos + 1) % 18446744073709551616 }
  | 2 => { r with size := (r.size + 1) % 18446744073709551616 }
  | 3 => { r with path := r.path ++ exB }
  | 4 => { r with dst := r.dst ++ exB }
  | _ => { r with data := r.data ++ exB }
/-- How many of the first ones may be. -/
def cntV (r : Rq) : Nat → Nat
  | 0 => 0
  | k + 1 => cntV r k + if mayQ (varQ r k) = true then 1 else 0
theorem cntV_le (r : Rq) : ∀ k, cntV r k ≤ k
  | 0 => Nat.le_refl _
  | k + 1 => by have := cntV_le r k; unfold cntV; split <;> omega

theorem size_more (s : ByteArray) : (s ++ exB).size = s.size + 1 := by rw [ByteArray.size_append]; rfl
theorem wrap_ok (x : Int) : 0 ≤ (x + 1) % 18446744073709551616 ∧ (x + 1) % 18446744073709551616 ≤ 18446744073709551615 := by omega
theorem varQ_ok {r : Rq} (hr : okRq r) (hf : (r.path.size : Int) + r.dst.size + r.data.size ≤ 2048) (k : Nat) : smallRq (varQ r k) := by
  have h1 := size_more r.path
  have h2 := size_more r.dst
  have h3 := size_more r.data
  match k with
  | 0 => exact ⟨⟨hr.kind, hr.flags, wrap_ok _, hr.pos, hr.size, hr.path, hr.dst, hr.data⟩, by show r.path.size + r.dst.size + r.data.size ≤ _; omega⟩
  | 1 => exact ⟨⟨hr.kind, hr.flags, hr.fd, wrap_ok _, hr.size, hr.path, hr.dst, hr.data⟩, by show r.path.size + r.dst.size + r.data.size ≤ _; omega⟩
  | 2 => exact ⟨⟨hr.kind, hr.flags, hr.fd, hr.pos, wrap_ok _, hr.path, hr.dst, hr.data⟩, by show r.path.size + r.dst.size + r.data.size ≤ _; omega⟩
  | 3 => exact ⟨⟨hr.kind, hr.flags, hr.fd, hr.pos, hr.size, by show (r.path ++ exB).size ≤ _; omega, hr.dst, hr.data⟩, by show (r.path ++ exB).size + r.dst.size + r.data.size ≤ _; omega⟩
  | 4 => exact ⟨⟨hr.kind, hr.flags, hr.fd, hr.pos, hr.size, hr.path, by show (r.dst ++ exB).size ≤ _; omega, hr.data⟩, by show r.path.size + (r.dst ++ exB).size + r.data.size ≤ _; omega⟩
  | k + 5 => exact ⟨⟨hr.kind, hr.flags, hr.fd, hr.pos, hr.size, hr.path, hr.dst, by show (r.data ++ exB).size ≤ _; omega⟩, by show r.path.size + r.dst.size + (r.data ++ exB).size ≤ _; omega⟩

theorem no_more (s : ByteArray) : (ByteArray.empty = s ++ exB) = False := by
  apply propext
  refine ⟨fun h => ?_, fun h => h.elim⟩
  have := congrArg ByteArray.size h
  rw [size_more] at this
  exact absurd this (by rw [empty_size]; omega)
theorem no_more1 : (ByteArray.empty = exB) = False := by
  have := no_more ByteArray.empty
  rwa [ByteArray.empty_append] at this
theorem may_parts {r : Rq} (hr : okRq r) (h : mayQ r = true) : known r.kind = true ∧ onlyQ r = r ∧ r.flags ≤ 7 := by
  rw [may_eq hr] at h
  simp only [mayR, Bool.and_eq_true, decide_eq_true_eq] at h
  exact ⟨h.1.1.1.1.1, h.1.1.1.1.2, h.1.1.1.2⟩

set_option maxHeartbeats 4000000 in
theorem others_count {r : Rq} (hr : okRq r) (hf : (r.path.size : Int) + r.dst.size + r.data.size ≤ 2048) (hm : mayQ r = true) :
    cntV r 6 ≤ 2 ∧ (r.kind = 2 → cntV r 6 = 1) ∧ (r.kind = 3 → cntV r 6 = 2) ∧ (r.kind = 5 → cntV r 6 = 2) ∧ (r.kind = 6 → cntV r 6 = 2) := by
  obtain ⟨hk, ho, hfl⟩ := may_parts hr hm
  have e : ∀ k, mayQ (varQ r k) = mayR (varQ r k) := fun k => may_eq (varQ_ok hr hf k).ok
  simp only [cntV, e]
  clear e hm hf hr
  obtain ⟨k, fl, fd, pos, sz, p, t, d⟩ := r
  rcases known_cases hk with h | h | h | h | h | h | h | h | h | h | h | h | h <;> (
    simp only at h
    subst h
    simp [onlyQ, fdsOf, set1, zeroRq] at ho
    repeat (obtain ⟨rfl, ho⟩ := ho)
    try subst ho
    simp only at hfl
    simp [varQ, mayR, onlyQ, fdsOf, set1, zeroRq, known, no_more1, hfl]
    try (repeat' split) <;> omega)

end Go.Proofs.Ytphcdndohdnolaa
