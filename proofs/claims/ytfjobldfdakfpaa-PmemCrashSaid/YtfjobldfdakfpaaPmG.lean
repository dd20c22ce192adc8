/-
  DEVICES: Load; what is told of no device; grommetref03.Same.
-/
import Derived.Test.YtfjobldfdakfpaaPmF
namespace Go.Proofs.Ytfjobldfdakfpaa
open Go.RowKit Go.Shelf
set_option linter.unusedVariables false

/-- v is handed back; some draws have gone by. -/
def Quietly (v : Value) (w : World) (e : Ending) (w' : World) : Prop := e = .returned v ∧ ∃ n, w' = w.drewN n

set_option maxHeartbeats 1000000 in
theorem same_no_len (a1 : Option Addr) (n1 c1 : Nat) (a2 : Option Addr) (n2 c2 : Nat) (h : n1 ≠ n2) (w : World) :
    Calls Try.prog 12 #[.slice a1 n1 c1, .slice a2 n2 c2] w (Quietly (.bool false) w) := by
  have hd : ((n1 : Int) != (n2 : Int)) = true := by rw [bne_iff_ne]; omega
  clear h
  go_enter Try.func12, Try.ntmps12
  go_wp2_with fail
  go_ret
  exact ⟨rfl, 0, rfl⟩

set_option maxHeartbeats 2000000 in
theorem same_len (a1 : Option Addr) (n c1 : Nat) (a2 : Option Addr) (c2 : Nat) (xs ys : List Int) (hx : xs.length = n) (hy : ys.length = n) (hn : n * 8 ≤ 140737488351232) (B : Nat) (w : World) (hI : Ints B .u64 w a1 xs) (hJ : Ints B .u64 w a2 ys) :
    Calls Try.prog 12 #[.slice a1 n c1, .slice a2 n c2] w (Quietly (.bool (decide (xs = ys))) w) := by
  have HX := Lib.hid hx
  have HY := Lib.hid hy
  clear hx hy
  go_enter Try.func12, Try.ntmps12
  go_wp2_with fail
  go_loopw [5] (fun i wr => ∃ k : Nat, k ≤ n ∧ i = .int .i64 k ∧ xs.take k = ys.take k ∧ ∃ m, wr = w.drewN m) (fun i _ => n - (intOf i).toNat)
  case atStart => exact ⟨0, by omega, rfl, rfl, 0, rfl⟩
  case round =>
    obtain ⟨k, hk, rfl, htk, m, hm⟩ := hrel
    have HT := Lib.hid htk
    have HMm := Lib.hid hm
    clear htk hm
    by_cases hlt : k < n
    · obtain ⟨b1, o1, rfl, _, p1⟩ := hI.at (j := k) (by rw [HX.out]; exact hlt)
      obtain ⟨b2, o2, rfl, _, p2⟩ := hJ.at (j := k) (by rw [HY.out]; exact hlt)
      have q1 := (show wr.cell? ⟨b1, o1 + k, none⟩ = w.cell? ⟨b1, o1 + k, none⟩ from by rw [HMm.out]; rfl).trans p1
      have q2 := (show wr.cell? ⟨b2, o2 + k, none⟩ = w.cell? ⟨b2, o2 + k, none⟩ from by rw [HMm.out]; rfl).trans p2
      clear p1 p2 hI hJ
      obtain ⟨x, hx⟩ : ∃ x, xs[k]'(by rw [HX.out]; exact hlt) = x := ⟨_, rfl⟩
      obtain ⟨y, hy⟩ : ∃ y, ys[k]'(by rw [HY.out]; exact hlt) = y := ⟨_, rfl⟩
      rw [hx] at q1
      rw [hy] at q2
      have HXX := Lib.hid hx
      have HYY := Lib.hid hy
      clear hx hy
      by_cases he : x = y
      · have hd : (x != y) = false := by rw [he]; simp
        have HE := Lib.hid he
        clear he
        go_wp2_with fail
        go_quiet (fail)
        go_wp2_with fail
        go_roundw
        case rel => exact ⟨k + 1, by omega, by go_num, by rw [List.take_succ_eq_append_getElem (by rw [HX.out]; exact hlt), List.take_succ_eq_append_getElem (by rw [HY.out]; exact hlt), HT.out, HXX.out, HYY.out, HE.out], m + nq, by rw [HMm.out, World.drewN_drewN]⟩
        case measure => simp [intOf]; omega
      · have hd : (x != y) = true := by rw [bne_iff_ne]; exact he
        have HF := Lib.hid (show decide (xs = ys) = false by
          rw [decide_eq_false_iff_not]; intro hh; subst hh; exact he (HXX.out.symm.trans HYY.out))
        clear he
        go_wp2_with fail
        go_quiet (fail)
        go_wp2_with fail
        go_ret
        exact ⟨by rw [HF.out]; rfl, m + nq, by rw [HMm.out, World.drewN_drewN]⟩
    · have HF := Lib.hid (show decide (xs = ys) = true by
        rw [decide_eq_true_eq]
        have := HT.out
        rwa [List.take_of_length_le (by rw [HX.out]; omega), List.take_of_length_le (by rw [HY.out]; omega)] at this)
      go_wp2_with fail
      go_ret
      exact ⟨by rw [HF.out]; rfl, m, HMm.out⟩

set_option maxHeartbeats 1000000 in
theorem load_any (d b : Nat) (f : Nat → Wd) (k : Nat) (hk : k < 16) (w : World) (h : DevAt w d b f) :
    Calls Try.prog 20 #[.pointer (some ⟨d, 0, none⟩), .int .i64 (k : Int)] w fun e w' => e = .returned (.tuple #[.int .u64 (f k).seen, .int .i64 0]) ∧ w = w' := by
  have HC := Lib.hid (at_any d b f k hk w h)
  have c1 := h.a.c1 k hk
  clear h
  go_enter Try.func20, Try.ntmps20
  go_wp2_with fail
  refine HC.out.mono ?_
  rintro e w' ⟨rfl, rfl⟩
  go_wp2_with fail
  go_ret2
  exact ⟨rfl, rfl⟩
set_option maxHeartbeats 1000000 in
theorem load_nil (k : Int) (w : World) :
    Calls Try.prog 20 #[.pointer none, .int .i64 k] w fun e w' => e = .returned (.tuple #[.int .u64 0, .int .i64 2]) ∧ w = w' := by
  go_enter Try.func20, Try.ntmps20
  go_wp2_with fail
  refine (at_nil k w).mono ?_
  rintro e w' ⟨rfl, rfl⟩
  go_wp2_with fail
  go_ret2
  exact ⟨rfl, rfl⟩
set_option maxHeartbeats 1000000 in
theorem store_nil (k v : Int) (w : World) :
    Calls Try.prog 17 #[.pointer none, .int .i64 k, .int .u64 v] w fun e w' => e = .returned (.int .i64 2) ∧ w = w' := by
  go_enter Try.func17, Try.ntmps17
  go_wp2_with fail
  refine (at_nil k w).mono ?_
  rintro e w' ⟨rfl, rfl⟩
  go_wp2_with fail
  go_ret
  exact ⟨rfl, rfl⟩
set_option maxHeartbeats 1000000 in
theorem line_nil (k : Int) (g : Nat) (w : World) :
    Calls Try.prog 28 #[.pointer none, .int .i64 k, .func (.func g) #[] #[]] w fun e w' => e = .returned (.int .i64 2) ∧ Nw w w' := by
  go_enter Try.func28, Try.ntmps28
  go_wp2_with fail
  go_ret
  exact ⟨rfl, Nw.refl.alloc _⟩
set_option maxHeartbeats 1000000 in
theorem flush_nil (k : Int) (w : World) :
    Calls Try.prog 18 #[.pointer none, .int .i64 k] w fun e w' => e = .returned (.int .i64 2) ∧ Nw w w' := by
  go_enter Try.func18, Try.ntmps18
  go_wp2_with fail
  refine (line_nil k _ w).mono ?_
  rintro e w' ⟨rfl, hn⟩
  go_wp2_with fail
  go_ret
  exact ⟨rfl, hn⟩
set_option maxHeartbeats 1000000 in
theorem evict_nil (k : Int) (w : World) :
    Calls Try.prog 19 #[.pointer none, .int .i64 k] w fun e w' => e = .returned (.int .i64 2) ∧ Nw w w' := by
  go_enter Try.func19, Try.ntmps19
  go_wp2_with fail
  refine (line_nil k _ w).mono ?_
  rintro e w' ⟨rfl, hn⟩
  go_wp2_with fail
  go_ret
  exact ⟨rfl, hn⟩
set_option maxHeartbeats 1000000 in
theorem crash_nil (w : World) :
    Calls Try.prog 15 #[.pointer none, .slice none 0 0] w fun e w' => e = .returned (.int .i64 2) ∧ Nw w w' := by
  go_enter Try.func15, Try.ntmps15
  go_wp2_with fail
  go_ret
  exact ⟨rfl, Nw.refl.alloc _⟩
set_option maxHeartbeats 1000000 in
theorem words_nil (w : World) :
    Calls Try.prog 21 #[.pointer none] w fun e w' => e = .returned (.int .i64 0) ∧ w = w' := by
  go_enter Try.func21, Try.ntmps21
  go_wp2_with fail
  go_ret
  exact ⟨rfl, rfl⟩
set_option maxHeartbeats 1000000 in
theorem all_nil (g : Nat) (w : World) :
    Calls Try.prog 24 #[.pointer none, .func (.func g) #[] #[]] w fun e w' => e = .returned (.slice none 0 0) ∧ w = w' := by
  go_enter Try.func24, Try.ntmps24
  go_wp2_with fail
  go_ret
  exact ⟨rfl, rfl⟩
set_option maxHeartbeats 1000000 in
theorem sure_nil (w : World) :
    Calls Try.prog 14 #[.pointer none] w fun e w' => e = .returned (.slice none 0 0) ∧ w = w' := by
  go_enter Try.func14, Try.ntmps14
  go_wp2_with fail
  refine (all_nil _ w).mono ?_
  rintro e w' ⟨rfl, rfl⟩
  go_wp2_with fail
  go_ret
  exact ⟨rfl, rfl⟩
set_option maxHeartbeats 1000000 in
theorem seen_nil (w : World) :
    Calls Try.prog 13 #[.pointer none] w fun e w' => e = .returned (.slice none 0 0) ∧ w = w' := by
  go_enter Try.func13, Try.ntmps13
  go_wp2_with fail
  refine (all_nil _ w).mono ?_
  rintro e w' ⟨rfl, rfl⟩
  go_wp2_with fail
  go_ret
  exact ⟨rfl, rfl⟩

end Go.Proofs.Ytfjobldfdakfpaa
