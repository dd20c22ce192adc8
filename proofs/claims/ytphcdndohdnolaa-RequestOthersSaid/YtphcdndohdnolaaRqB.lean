/-
  THE DOCUMENT's only, May, Put (grommetref20).
-/
import Derived.Test.YtphcdndohdnolaaRqA
namespace Go.Proofs.Ytphcdndohdnolaa
open Go.RowKit Go.Shelf
set_option linter.unusedVariables false

set_option maxHeartbeats 2000000 in
theorem only_1 (fl fd ps sz : Int) (p d t : ByteArray) (w : World) : Calls Try.prog 25 #[.agg #[.int .u8 1, .int .u8 fl, .int .u64 fd, .int .u64 ps, .int .u64 sz, .string p, .string d, .string t]] w fun e w' => e = .returned (.tuple #[.agg #[.int .u8 1, .int .u8 fl, .int .u64 0, .int .u64 0, .int .u64 0, .string p, .string ⟨#[]⟩, .string ⟨#[]⟩], .bool true]) ∧ Nw w w' := by
  go_enter Try.func25, Try.ntmps25
  go_wp2_with fail
  refine bodyPost_ret (v := .tuple #[.agg #[.int .u8 1, .int .u8 fl, .int .u64 0, .int .u64 0, .int .u64 0, .string p, .string ⟨#[]⟩, .string ⟨#[]⟩], .bool true]) (by simp [results, Try.results25, go_sem]) rfl ⟨rfl, ((Nw.refl.alloc _).alloc _).alloc _⟩
set_option maxHeartbeats 2000000 in
theorem only_2 (fl fd ps sz : Int) (p d t : ByteArray) (w : World) : Calls Try.prog 25 #[.agg #[.int .u8 2, .int .u8 fl, .int .u64 fd, .int .u64 ps, .int .u64 sz, .string p, .string d, .string t]] w fun e w' => e = .returned (.tuple #[.agg #[.int .u8 2, .int .u8 0, .int .u64 fd, .int .u64 0, .int .u64 0, .string ⟨#[]⟩, .string ⟨#[]⟩, .string ⟨#[]⟩], .bool true]) ∧ Nw w w' := by
  go_enter Try.func25, Try.ntmps25
  go_wp2_with fail
  refine bodyPost_ret (v := .tuple #[.agg #[.int .u8 2, .int .u8 0, .int .u64 fd, .int .u64 0, .int .u64 0, .string ⟨#[]⟩, .string ⟨#[]⟩, .string ⟨#[]⟩], .bool true]) (by simp [results, Try.results25, go_sem]) rfl ⟨rfl, ((Nw.refl.alloc _).alloc _).alloc _⟩
set_option maxHeartbeats 2000000 in
theorem only_3 (fl fd ps sz : Int) (p d t : ByteArray) (w : World) : Calls Try.prog 25 #[.agg #[.int .u8 3, .int .u8 fl, .int .u64 fd, .int .u64 ps, .int .u64 sz, .string p, .string d, .string t]] w fun e w' => e = .returned (.tuple #[.agg #[.int .u8 3, .int .u8 0, .int .u64 fd, .int .u64 0, .int .u64 sz, .string ⟨#[]⟩, .string ⟨#[]⟩, .string ⟨#[]⟩], .bool true]) ∧ Nw w w' := by
  go_enter Try.func25, Try.ntmps25
  go_wp2_with fail
  refine bodyPost_ret (v := .tuple #[.agg #[.int .u8 3, .int .u8 0, .int .u64 fd, .int .u64 0, .int .u64 sz, .string ⟨#[]⟩, .string ⟨#[]⟩, .string ⟨#[]⟩], .bool true]) (by simp [results, Try.results25, go_sem]) rfl ⟨rfl, ((Nw.refl.alloc _).alloc _).alloc _⟩
set_option maxHeartbeats 2000000 in
theorem only_4 (fl fd ps sz : Int) (p d t : ByteArray) (w : World) : Calls Try.prog 25 #[.agg #[.int .u8 4, .int .u8 fl, .int .u64 fd, .int .u64 ps, .int .u64 sz, .string p, .string d, .string t]] w fun e w' => e = .returned (.tuple #[.agg #[.int .u8 4, .int .u8 0, .int .u64 fd, .int .u64 0, .int .u64 0, .string ⟨#[]⟩, .string ⟨#[]⟩, .string t], .bool true]) ∧ Nw w w' := by
  go_enter Try.func25, Try.ntmps25
  go_wp2_with fail
  refine bodyPost_ret (v := .tuple #[.agg #[.int .u8 4, .int .u8 0, .int .u64 fd, .int .u64 0, .int .u64 0, .string ⟨#[]⟩, .string ⟨#[]⟩, .string t], .bool true]) (by simp [results, Try.results25, go_sem]) rfl ⟨rfl, ((Nw.refl.alloc _).alloc _).alloc _⟩
set_option maxHeartbeats 2000000 in
theorem only_5 (fl fd ps sz : Int) (p d t : ByteArray) (w : World) : Calls Try.prog 25 #[.agg #[.int .u8 5, .int .u8 fl, .int .u64 fd, .int .u64 ps, .int .u64 sz, .string p, .string d, .string t]] w fun e w' => e = .returned (.tuple #[.agg #[.int .u8 5, .int .u8 0, .int .u64 fd, .int .u64 ps, .int .u64 0, .string ⟨#[]⟩, .string ⟨#[]⟩, .string ⟨#[]⟩], .bool true]) ∧ Nw w w' := by
  go_enter Try.func25, Try.ntmps25
  go_wp2_with fail
  refine bodyPost_ret (v := .tuple #[.agg #[.int .u8 5, .int .u8 0, .int .u64 fd, .int .u64 ps, .int .u64 0, .string ⟨#[]⟩, .string ⟨#[]⟩, .string ⟨#[]⟩], .bool true]) (by simp [results, Try.results25, go_sem]) rfl ⟨rfl, ((Nw.refl.alloc _).alloc _).alloc _⟩
set_option maxHeartbeats 2000000 in
theorem only_6 (fl fd ps sz : Int) (p d t : ByteArray) (w : World) : Calls Try.prog 25 #[.agg #[.int .u8 6, .int .u8 fl, .int .u64 fd, .int .u64 ps, .int .u64 sz, .string p, .string d, .string t]] w fun e w' => e = .returned (.tuple #[.agg #[.int .u8 6, .int .u8 0, .int .u64 fd, .int .u64 ps, .int .u64 0, .string ⟨#[]⟩, .string ⟨#[]⟩, .string ⟨#[]⟩], .bool true]) ∧ Nw w w' := by
  go_enter Try.func25, Try.ntmps25
  go_wp2_with fail
  refine bodyPost_ret (v := .tuple #[.agg #[.int .u8 6, .int .u8 0, .int .u64 fd, .int .u64 ps, .int .u64 0, .string ⟨#[]⟩, .string ⟨#[]⟩, .string ⟨#[]⟩], .bool true]) (by simp [results, Try.results25, go_sem]) rfl ⟨rfl, ((Nw.refl.alloc _).alloc _).alloc _⟩
set_option maxHeartbeats 2000000 in
theorem only_7 (fl fd ps sz : Int) (p d t : ByteArray) (w : World) : Calls Try.prog 25 #[.agg #[.int .u8 7, .int .u8 fl, .int .u64 fd, .int .u64 ps, .int .u64 sz, .string p, .string d, .string t]] w fun e w' => e = .returned (.tuple #[.agg #[.int .u8 7, .int .u8 0, .int .u64 0, .int .u64 0, .int .u64 0, .string p, .string ⟨#[]⟩, .string ⟨#[]⟩], .bool true]) ∧ Nw w w' := by
  go_enter Try.func25, Try.ntmps25
  go_wp2_with fail
  refine bodyPost_ret (v := .tuple #[.agg #[.int .u8 7, .int .u8 0, .int .u64 0, .int .u64 0, .int .u64 0, .string p, .string ⟨#[]⟩, .string ⟨#[]⟩], .bool true]) (by simp [results, Try.results25, go_sem]) rfl ⟨rfl, ((Nw.refl.alloc _).alloc _).alloc _⟩
set_option maxHeartbeats 2000000 in
theorem only_8 (fl fd ps sz : Int) (p d t : ByteArray) (w : World) : Calls Try.prog 25 #[.agg #[.int .u8 8, .int .u8 fl, .int .u64 fd, .int .u64 ps, .int .u64 sz, .string p, .string d, .string t]] w fun e w' => e = .returned (.tuple #[.agg #[.int .u8 8, .int .u8 0, .int .u64 0, .int .u64 0, .int .u64 0, .string p, .string ⟨#[]⟩, .string ⟨#[]⟩], .bool true]) ∧ Nw w w' := by
  go_enter Try.func25, Try.ntmps25
  go_wp2_with fail
  refine bodyPost_ret (v := .tuple #[.agg #[.int .u8 8, .int .u8 0, .int .u64 0, .int .u64 0, .int .u64 0, .string p, .string ⟨#[]⟩, .string ⟨#[]⟩], .bool true]) (by simp [results, Try.results25, go_sem]) rfl ⟨rfl, ((Nw.refl.alloc _).alloc _).alloc _⟩
set_option maxHeartbeats 2000000 in
theorem only_9 (fl fd ps sz : Int) (p d t : ByteArray) (w : World) : Calls Try.prog 25 #[.agg #[.int .u8 9, .int .u8 fl, .int .u64 fd, .int .u64 ps, .int .u64 sz, .string p, .string d, .string t]] w fun e w' => e = .returned (.tuple #[.agg #[.int .u8 9, .int .u8 0, .int .u64 0, .int .u64 0, .int .u64 0, .string p, .string ⟨#[]⟩, .string ⟨#[]⟩], .bool true]) ∧ Nw w w' := by
  go_enter Try.func25, Try.ntmps25
  go_wp2_with fail
  refine bodyPost_ret (v := .tuple #[.agg #[.int .u8 9, .int .u8 0, .int .u64 0, .int .u64 0, .int .u64 0, .string p, .string ⟨#[]⟩, .string ⟨#[]⟩], .bool true]) (by simp [results, Try.results25, go_sem]) rfl ⟨rfl, ((Nw.refl.alloc _).alloc _).alloc _⟩
set_option maxHeartbeats 2000000 in
theorem only_10 (fl fd ps sz : Int) (p d t : ByteArray) (w : World) : Calls Try.prog 25 #[.agg #[.int .u8 10, .int .u8 fl, .int .u64 fd, .int .u64 ps, .int .u64 sz, .string p, .string d, .string t]] w fun e w' => e = .returned (.tuple #[.agg #[.int .u8 10, .int .u8 0, .int .u64 0, .int .u64 0, .int .u64 0, .string p, .string d, .string ⟨#[]⟩], .bool true]) ∧ Nw w w' := by
  go_enter Try.func25, Try.ntmps25
  go_wp2_with fail
  refine bodyPost_ret (v := .tuple #[.agg #[.int .u8 10, .int .u8 0, .int .u64 0, .int .u64 0, .int .u64 0, .string p, .string d, .string ⟨#[]⟩], .bool true]) (by simp [results, Try.results25, go_sem]) rfl ⟨rfl, ((Nw.refl.alloc _).alloc _).alloc _⟩
set_option maxHeartbeats 2000000 in
theorem only_11 (fl fd ps sz : Int) (p d t : ByteArray) (w : World) : Calls Try.prog 25 #[.agg #[.int .u8 11, .int .u8 fl, .int .u64 fd, .int .u64 ps, .int .u64 sz, .string p, .string d, .string t]] w fun e w' => e = .returned (.tuple #[.agg #[.int .u8 11, .int .u8 0, .int .u64 0, .int .u64 0, .int .u64 0, .string p, .string ⟨#[]⟩, .string ⟨#[]⟩], .bool true]) ∧ Nw w w' := by
  go_enter Try.func25, Try.ntmps25
  go_wp2_with fail
  refine bodyPost_ret (v := .tuple #[.agg #[.int .u8 11, .int .u8 0, .int .u64 0, .int .u64 0, .int .u64 0, .string p, .string ⟨#[]⟩, .string ⟨#[]⟩], .bool true]) (by simp [results, Try.results25, go_sem]) rfl ⟨rfl, ((Nw.refl.alloc _).alloc _).alloc _⟩
set_option maxHeartbeats 2000000 in
theorem only_12 (fl fd ps sz : Int) (p d t : ByteArray) (w : World) : Calls Try.prog 25 #[.agg #[.int .u8 12, .int .u8 fl, .int .u64 fd, .int .u64 ps, .int .u64 sz, .string p, .string d, .string t]] w fun e w' => e = .returned (.tuple #[.agg #[.int .u8 12, .int .u8 0, .int .u64 0, .int .u64 0, .int .u64 0, .string p, .string d, .string ⟨#[]⟩], .bool true]) ∧ Nw w w' := by
  go_enter Try.func25, Try.ntmps25
  go_wp2_with fail
  refine bodyPost_ret (v := .tuple #[.agg #[.int .u8 12, .int .u8 0, .int .u64 0, .int .u64 0, .int .u64 0, .string p, .string d, .string ⟨#[]⟩], .bool true]) (by simp [results, Try.results25, go_sem]) rfl ⟨rfl, ((Nw.refl.alloc _).alloc _).alloc _⟩
set_option maxHeartbeats 2000000 in
theorem only_13 (fl fd ps sz : Int) (p d t : ByteArray) (w : World) : Calls Try.prog 25 #[.agg #[.int .u8 13, .int .u8 fl, .int .u64 fd, .int .u64 ps, .int .u64 sz, .string p, .string d, .string t]] w fun e w' => e = .returned (.tuple #[.agg #[.int .u8 13, .int .u8 0, .int .u64 0, .int .u64 ps, .int .u64 0, .string p, .string ⟨#[]⟩, .string ⟨#[]⟩], .bool true]) ∧ Nw w w' := by
  go_enter Try.func25, Try.ntmps25
  go_wp2_with fail
  refine bodyPost_ret (v := .tuple #[.agg #[.int .u8 13, .int .u8 0, .int .u64 0, .int .u64 ps, .int .u64 0, .string p, .string ⟨#[]⟩, .string ⟨#[]⟩], .bool true]) (by simp [results, Try.results25, go_sem]) rfl ⟨rfl, ((Nw.refl.alloc _).alloc _).alloc _⟩
set_option maxHeartbeats 2000000 in
theorem only_no (k fl fd ps sz : Int) (p d t : ByteArray) (hk : known k = false) (w : World) : Calls Try.prog 25 #[.agg #[.int .u8 k, .int .u8 fl, .int .u64 fd, .int .u64 ps, .int .u64 sz, .string p, .string d, .string t]] w fun e w' => e = .returned (.tuple #[.agg #[.int .u8 k, .int .u8 0, .int .u64 0, .int .u64 0, .int .u64 0, .string ⟨#[]⟩, .string ⟨#[]⟩, .string ⟨#[]⟩], .bool false]) ∧ Nw w w' := by
  have hn : ¬ (1 ≤ k ∧ k ≤ 13) := by rintro ⟨q1, q2⟩; simp [known, q1, q2] at hk
  have d1 : (k == 1) = false := by rw [beq_eq_false_iff_ne]; omega
  have d2 : (k == 2) = false := by rw [beq_eq_false_iff_ne]; omega
  have d3 : (k == 3) = false := by rw [beq_eq_false_iff_ne]; omega
  have d4 : (k == 4) = false := by rw [beq_eq_false_iff_ne]; omega
  have d5 : (k == 5) = false := by rw [beq_eq_false_iff_ne]; omega
  have d6 : (k == 6) = false := by rw [beq_eq_false_iff_ne]; omega
  have d7 : (k == 7) = false := by rw [beq_eq_false_iff_ne]; omega
  have d8 : (k == 8) = false := by rw [beq_eq_false_iff_ne]; omega
  have d9 : (k == 9) = false := by rw [beq_eq_false_iff_ne]; omega
  have d10 : (k == 10) = false := by rw [beq_eq_false_iff_ne]; omega
  have d11 : (k == 11) = false := by rw [beq_eq_false_iff_ne]; omega
  have d12 : (k == 12) = false := by rw [beq_eq_false_iff_ne]; omega
  have d13 : (k == 13) = false := by rw [beq_eq_false_iff_ne]; omega
  clear hn hk
  go_enter Try.func25, Try.ntmps25
  go_wp2_with fail
  refine bodyPost_ret (v := .tuple #[.agg #[.int .u8 k, .int .u8 0, .int .u64 0, .int .u64 0, .int .u64 0, .string ⟨#[]⟩, .string ⟨#[]⟩, .string ⟨#[]⟩], .bool false]) (by simp [results, Try.results25, go_sem]) rfl ⟨rfl, ((Nw.refl.alloc _).alloc _).alloc _⟩
theorem only_any (r : Rq) (w : World) : Calls Try.prog 25 #[rqV r] w fun e w' => e = .returned (.tuple #[rqV (onlyQ r), .bool (known r.kind)]) ∧ Nw w w' := by
  obtain ⟨k, fl, fd, ps, sz, p, d, t⟩ := r
  by_cases hk : known k = true
  · rcases known_cases hk with rfl | rfl | rfl | rfl | rfl | rfl | rfl | rfl | rfl | rfl | rfl | rfl | rfl
    · exact only_1 fl fd ps sz p d t w
    · exact only_2 fl fd ps sz p d t w
    · exact only_3 fl fd ps sz p d t w
    · exact only_4 fl fd ps sz p d t w
    · exact only_5 fl fd ps sz p d t w
    · exact only_6 fl fd ps sz p d t w
    · exact only_7 fl fd ps sz p d t w
    · exact only_8 fl fd ps sz p d t w
    · exact only_9 fl fd ps sz p d t w
    · exact only_10 fl fd ps sz p d t w
    · exact only_11 fl fd ps sz p d t w
    · exact only_12 fl fd ps sz p d t w
    · exact only_13 fl fd ps sz p d t w
  · have hk' : known k = false := by simpa using hk
    have h := only_no k fl fd ps sz p d t hk' w
    have e : onlyQ ⟨k, fl, fd, ps, sz, p, d, t⟩ = ⟨k, 0, 0, 0, 0, ByteArray.empty, ByteArray.empty, ByteArray.empty⟩ := by
      unfold onlyQ; dsimp only; rw [fdsOf_unknown hk']; rfl
    rw [e]
    show Calls _ _ _ _ (fun e w' => e = .returned (.tuple #[_, .bool (known k)]) ∧ _)
    rw [hk']
    exact h

end Go.Proofs.Ytphcdndohdnolaa
