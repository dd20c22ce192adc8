/-
  DEVICES OF N WORDS: all, Sure, Seen.
-/
import Derived.Test.YtkopfnldgnkkoaaGreatDvE
import Derived.Test.YtkopfnldgnkkoaaGreatRdC
namespace Go.Proofs.YtkopfnldgnkkoaaGreat
open Go.RowKit Go.Shelf
set_option linter.unusedVariables false

def aggW (x : Wd) : Value := .agg #[.int .u64 x.sure, .int .u64 x.seen, .bool x.loose, .bool x.flushed, .bool x.again, .int .u64 x.value]
def rowL (p : Wd → Int) (f : Nat → Wd) (k : Nat) : List Int := (List.range k).map fun j => p (f j)
theorem rowL_length (p : Wd → Int) (f : Nat → Wd) (k : Nat) : (rowL p f k).length = k := by simp [rowL]
theorem rowL_succ (p : Wd → Int) (f : Nat → Wd) (k : Nat) : rowL p f (k + 1) = rowL p f k ++ [p (f k)] := by simp [rowL, List.range_succ]

set_option maxHeartbeats 1000000 in
theorem sure1_any (x : Wd) (w : World) :
    Calls Tryz.prog 79 #[aggW x] w fun e w' => e = .returned (.int .u64 x.sure) ∧ Nw w w' := by
  unfold aggW
  go_enter Tryz.func79, Tryz.ntmps79
  go_wp2_with fail
  go_ret
  exact ⟨rfl, Nw.refl.alloc _⟩
set_option maxHeartbeats 4000000 in
theorem sure_all (d b N : Nat) (f : Nat → Wd) (w : World) (h : DevAt w d b N f) :
    Calls Tryz.prog 77 #[.pointer (some ⟨d, 0, none⟩), .func (.func 79) #[] #[]] w (OwnU w (rowL (·.sure) f N)) := by
  obtain ⟨i0, hi, hz0, hz1, hz2⟩ := info_parts8 info_u64
  have hs := h.s
  have hle := h.le
  have HD := Lib.hid h
  clear h
  go_enter Tryz.func77, Tryz.ntmps77
  go_wp2_with fail
  go_loopw [14, 6, 4] (fun i p v wr => ∃ k : Nat, k ≤ N ∧ i = .int .i64 k ∧ Nw w wr ∧ wr.ownsRow w.heap.size 44 1 v k ((rowL (·.sure) f k).map (.int .u64))) (fun i _ _ _ => N - (intOf i).toNat)
  case atStart => exact ⟨0, by omega, rfl, Nw.refl, rfl, .inl ⟨rfl, rfl⟩⟩
  case round =>
    obtain ⟨k, hk, rfl, hn, how⟩ := hrel
    by_cases hlt : k < N
    · have hA := (HD.out.nw hn).a
      have c0 := hA.c0 k hlt
      have c1 := hA.c1 k hlt
      have c2 := hA.c2 k hlt
      have c3 := hA.c3 k hlt
      have c4 := hA.c4 k hlt
      have c5 := hA.c5 k hlt
      have HN := Lib.hid hn
      have HOW := Lib.hid how
      have HR := Lib.hid (rowL_succ (·.sure) f k)
      clear hA hn how
      go_wp2_with fail
      refine (sure1_any (f k) _).mono ?_
      rintro e w1 ⟨rfl, hn1⟩
      have hn2 : Nw wr w1 := (Nw.refl.alloc _).trans hn1
      have how := own_below hn2.b HOW.out
      have HN1 := Lib.hid (HN.out.trans hn2)
      have hs1 := HN1.out.b.size
      clear hn1 hn2
      go_wp2_with (at_builtin; refine wpList_append_ints _ rfl (.tmp 18) (.tmp 22) 33 rfl w.heap.size 44 i0 (.int .u64 0) 8 Tryz.underlying33 hi hz0 hz1 hz2 rfl _ _ _ rfl (how.alloc _) _ 1 1 .u64 [(f k).sure] _ rfl rfl (Ints.one _ _ _ _) (by unfold maxLen; omega) (by omega) (by simp; omega) ?_; intro v3 w3 hown3 hgrow3; have hb3 : Below w.heap.size w w3 := Below.grownRow (HN1.out.b.alloc hs1 _) hgrow3 (by simp; omega) (how.alloc _) (Nat.le_refl _); clear hgrow3; rw [← List.map_append] at hown3)
      go_roundw
      case rel => exact ⟨k + 1, by omega, by go_num, ⟨hb3⟩, by rw [HR.out]; exact hown3⟩
      case measure => simp [intOf]; omega
    · obtain rfl : k = N := by omega
      go_wp2_with fail
      go_ret
      exact ⟨_, rfl, by rw [rowL_length]; exact how, hn⟩
set_option maxHeartbeats 1000000 in
theorem sure_any (d b N : Nat) (f : Nat → Wd) (w : World) (h : DevAt w d b N f) :
    Calls Tryz.prog 28 #[.pointer (some ⟨d, 0, none⟩)] w (OwnU w (rowL (·.sure) f N)) := by
  have HC := Lib.hid (sure_all d b N f w h)
  clear h
  go_enter Tryz.func28, Tryz.ntmps28
  go_wp2_with fail
  refine HC.out.mono ?_
  rintro e w' ⟨v, rfl, h1, h2⟩
  go_wp2_with fail
  go_ret
  exact ⟨_, rfl, h1, h2⟩

set_option maxHeartbeats 1000000 in
theorem seen1_any (x : Wd) (w : World) :
    Calls Tryz.prog 78 #[aggW x] w fun e w' => e = .returned (.int .u64 x.seen) ∧ Nw w w' := by
  unfold aggW
  go_enter Tryz.func78, Tryz.ntmps78
  go_wp2_with fail
  go_ret
  exact ⟨rfl, Nw.refl.alloc _⟩
set_option maxHeartbeats 4000000 in
theorem seen_all (d b N : Nat) (f : Nat → Wd) (w : World) (h : DevAt w d b N f) :
    Calls Tryz.prog 77 #[.pointer (some ⟨d, 0, none⟩), .func (.func 78) #[] #[]] w (OwnU w (rowL (·.seen) f N)) := by
  obtain ⟨i0, hi, hz0, hz1, hz2⟩ := info_parts8 info_u64
  have hs := h.s
  have hle := h.le
  have HD := Lib.hid h
  clear h
  go_enter Tryz.func77, Tryz.ntmps77
  go_wp2_with fail
  go_loopw [14, 6, 4] (fun i p v wr => ∃ k : Nat, k ≤ N ∧ i = .int .i64 k ∧ Nw w wr ∧ wr.ownsRow w.heap.size 44 1 v k ((rowL (·.seen) f k).map (.int .u64))) (fun i _ _ _ => N - (intOf i).toNat)
  case atStart => exact ⟨0, by omega, rfl, Nw.refl, rfl, .inl ⟨rfl, rfl⟩⟩
  case round =>
    obtain ⟨k, hk, rfl, hn, how⟩ := hrel
    by_cases hlt : k < N
    · have hA := (HD.out.nw hn).a
      have c0 := hA.c0 k hlt
      have c1 := hA.c1 k hlt
      have c2 := hA.c2 k hlt
      have c3 := hA.c3 k hlt
      have c4 := hA.c4 k hlt
      have c5 := hA.c5 k hlt
      have HN := Lib.hid hn
      have HOW := Lib.hid how
      have HR := Lib.hid (rowL_succ (·.seen) f k)
      clear hA hn how
      go_wp2_with fail
      refine (seen1_any (f k) _).mono ?_
      rintro e w1 ⟨rfl, hn1⟩
      have hn2 : Nw wr w1 := (Nw.refl.alloc _).trans hn1
      have how := own_below hn2.b HOW.out
      have HN1 := Lib.hid (HN.out.trans hn2)
      have hs1 := HN1.out.b.size
      clear hn1 hn2
      go_wp2_with (at_builtin; refine wpList_append_ints _ rfl (.tmp 18) (.tmp 22) 33 rfl w.heap.size 44 i0 (.int .u64 0) 8 Tryz.underlying33 hi hz0 hz1 hz2 rfl _ _ _ rfl (how.alloc _) _ 1 1 .u64 [(f k).seen] _ rfl rfl (Ints.one _ _ _ _) (by unfold maxLen; omega) (by omega) (by simp; omega) ?_; intro v3 w3 hown3 hgrow3; have hb3 : Below w.heap.size w w3 := Below.grownRow (HN1.out.b.alloc hs1 _) hgrow3 (by simp; omega) (how.alloc _) (Nat.le_refl _); clear hgrow3; rw [← List.map_append] at hown3)
      go_roundw
      case rel => exact ⟨k + 1, by omega, by go_num, ⟨hb3⟩, by rw [HR.out]; exact hown3⟩
      case measure => simp [intOf]; omega
    · obtain rfl : k = N := by omega
      go_wp2_with fail
      go_ret
      exact ⟨_, rfl, by rw [rowL_length]; exact how, hn⟩
set_option maxHeartbeats 1000000 in
theorem seen_any (d b N : Nat) (f : Nat → Wd) (w : World) (h : DevAt w d b N f) :
    Calls Tryz.prog 27 #[.pointer (some ⟨d, 0, none⟩)] w (OwnU w (rowL (·.seen) f N)) := by
  have HC := Lib.hid (seen_all d b N f w h)
  clear h
  go_enter Tryz.func27, Tryz.ntmps27
  go_wp2_with fail
  refine HC.out.mono ?_
  rintro e w' ⟨v, rfl, h1, h2⟩
  go_wp2_with fail
  go_ret
  exact ⟨_, rfl, h1, h2⟩

end Go.Proofs.YtkopfnldgnkkoaaGreat
