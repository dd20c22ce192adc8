/-
  PLAIN LAWS FOR RequestBack: what is put has no prefix and no longer one that is got; unlike requests are put unlike.
-/
import Derived.Test.YtphcdndohdnolaaRqO
import Derived.Test.YtphcdndohdnolaaRqW
namespace Go.Proofs.Ytphcdndohdnolaa
open Go.RowKit Go.Shelf
set_option linter.unusedVariables false

/-- Of two requests that may be, one put's bytes ahead of the other's: they are the same. -/
theorem put_prefix {r y : Rq} (hr : okRq r) (hy : okRq y) (mr : mayQ r = true) (my : mayQ y = true) (z : List Int) (h : putL y ++ z = putL r) : z = [] ∧ y = r := by
  have h1 := may_read hr mr []
  have h2 := may_read hy my z
  rw [List.append_nil] at h1
  rw [h, h1] at h2
  injection h2 with a b c
  exact ⟨a.symm, c.symm⟩

theorem okRq_getQ {zs : List Int} (hz : ∀ x ∈ zs, isByte x) : okRq (getQ zs) := by
  unfold getQ
  split
  · exact (readS_small hz).ok
  · exact ex0_ok.ok

/-- What is cut is not got. -/
theorem cut_not {r : Rq} (hr : smallRq r) (mr : mayQ r = true) (k : Nat) (hk : k < (putL r).length) : getOk ((putL r).take k) = false := by
  cases h : getOk ((putL r).take k) with
  | false => rfl
  | true =>
    exfalso
    have h1 := get_ok h
    have hb : ∀ x ∈ (putL r).take k, isByte x := fun x hx => putL_byte hr.ok x (List.mem_of_mem_take hx)
    have h2 := put_prefix hr.ok (okRq_getQ hb) mr h1.1 ((putL r).drop k) (by rw [h1.2, List.take_append_drop])
    have h3 := congrArg List.length h2.1
    rw [List.length_drop] at h3
    simp at h3
    omega

/-- What has a byte more is not got. -/
theorem more_not {r : Rq} (hr : smallRq r) (mr : mayQ r = true) : getOk (putL r ++ [0]) = false := by
  cases h : getOk (putL r ++ [0]) with
  | false => rfl
  | true =>
    exfalso
    have h1 := get_ok h
    have hb : ∀ x ∈ putL r ++ [0], isByte x := by
      intro x hx
      rcases List.mem_append.mp hx with hx | hx
      · exact putL_byte hr.ok x hx
      · rw [List.mem_singleton.mp hx]; exact ⟨by decide, by decide⟩
    have h2 := put_prefix (okRq_getQ hb) hr.ok h1.1 mr [0] h1.2.symm
    exact absurd h2.1 (by simp)

/-- Unlike requests that may be are put unlike. -/
theorem put_same {r y : Rq} (hr : okRq r) (hy : okRq y) (mr : mayQ r = true) (my : mayQ y = true) : (putQ y = putQ r) = (y = r) := by
  apply propext
  constructor
  · intro h
    rw [putQ, if_pos my, putQ, if_pos mr] at h
    exact (put_prefix hr hy mr my [] (by rw [List.append_nil, h])).2
  · intro h
    rw [h]

/-- Bytes are put just if the request may be. -/
theorem put_len (r : Rq) : (decide ((0 : Int) < ((putQ r).length : Int))) = mayQ r := by
  unfold putQ
  cases h : mayQ r with
  | false => simp
  | true => simp [putL]

end Go.Proofs.Ytphcdndohdnolaa
