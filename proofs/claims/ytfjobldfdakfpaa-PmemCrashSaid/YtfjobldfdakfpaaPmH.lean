/-
  DEVICES: all, Sure, Seen.
-/
import Derived.Test.YtfjobldfdakfpaaPmG
namespace Go.Proofs.Ytfjobldfdakfpaa
open Go.RowKit Go.Shelf
set_option linter.unusedVariables false

def aggW (x : Wd) : Value := .agg #[.int .u64 x.sure, .int .u64 x.seen, .bool x.loose, .bool x.flushed, .bool x.again, .int .u64 x.value]
theorem info_u64 : (Try.prog.info? 31).map (fun i => (i.zero, i.size, i.bytes)) = some (some (.int .u64 0), 1, 8) := by kernel_rfl
theorem own_below {w w' : World} (hb : Below w.heap.size w w') {base : Nat} {e : TypeId} {size : Nat} {v : Value} {n : Nat} {xs : List Value} (h : w.ownsRow base e size v n xs) : w'.ownsRow base e size v n xs := by
  obtain ⟨h1, h2⟩ := h
  refine ⟨h1, ?_⟩
  rcases h2 with h2 | ⟨g, cap, cur, hv, hg, hh, r⟩
  · exact .inl h2
  · exact .inr ⟨g, cap, cur, hv, hg, (hb.block g (Array.getElem?_eq_some_iff.1 hh).1).trans hh, r⟩
theorem own_cap {w : World} {base : Nat} {e : TypeId} {a : Option Addr} {n m cap : Nat} {xs : List Value} (h : w.ownsRow base e 1 (.slice a n cap) m xs) : n ≤ cap := by
  rcases h.2 with ⟨h1, _⟩ | ⟨g, c, cur, h1, _, _, hn, _⟩
  · cases h1; exact Nat.le_refl _
  · simp only [Value.slice.injEq] at h1; obtain ⟨_, rfl, rfl⟩ := h1; omega
/-- What a call that makes a row of words of its own tells. -/
def OwnU (w : World) (zs : List Int) (e : Ending) (w' : World) : Prop :=
  ∃ v, e = .returned v ∧ w'.ownsRow w.heap.size 31 1 v zs.length (zs.map (.int .u64)) ∧ Nw w w'
theorem OwnU.slice {w w' : World} {zs : List Int} {e : Ending} (h : OwnU w zs e w') : ∃ a c, e = .returned (.slice a zs.length c) ∧ Ints w'.heap.size .u64 w' a zs ∧ Nw w w' ∧ zs.length ≤ c := by
  obtain ⟨v, rfl, ho, hn⟩ := h
  obtain ⟨a, c, rfl, _, hI⟩ := Ints.of_owns ho
  exact ⟨a, c, rfl, hI, hn, own_cap ho⟩
def rowL (p : Wd → Int) (f : Nat → Wd) (k : Nat) : List Int := (List.range k).map fun j => p (f j)
theorem rowL_length (p : Wd → Int) (f : Nat → Wd) (k : Nat) : (rowL p f k).length = k := by simp [rowL]
theorem rowL_succ (p : Wd → Int) (f : Nat → Wd) (k : Nat) : rowL p f (k + 1) = rowL p f k ++ [p (f k)] := by simp [rowL, List.range_succ]

set_option maxHeartbeats 1000000 in
theorem sure1_any (x : Wd) (w : World) :
    Calls Try.prog 26 #[aggW x] w fun e w' => e = .returned (.int .u64 x.sure) ∧ Nw w w' := by
  unfold aggW
  go_enter Try.func26, Try.ntmps26
  go_wp2_with fail
  go_ret
  exact ⟨rfl, Nw.refl.alloc _⟩
set_option maxHeartbeats 4000000 in
theorem sure_all (d b : Nat) (f : Nat → Wd) (w : World) (h : DevAt w d b f) :
    Calls Try.prog 24 #[.pointer (some ⟨d, 0, none⟩), .func (.func 26) #[] #[]] w (OwnU w (rowL (·.sure) f 16)) := by
  obtain ⟨i0, hi, hz0, hz1, hz2⟩ := info_parts8 info_u64
  have hs := h.s
  have HD := Lib.hid h
  clear h
  go_enter Try.func24, Try.ntmps24
  go_wp2_with fail
  go_loopw [14, 6, 4] (fun i p v wr => ∃ k : Nat, k ≤ 16 ∧ i = .int .i64 k ∧ Nw w wr ∧ wr.ownsRow w.heap.size 31 1 v k ((rowL (·.sure) f k).map (.int .u64))) (fun i _ _ _ => 16 - (intOf i).toNat)
  case atStart => exact ⟨0, by omega, rfl, Nw.refl, rfl, .inl ⟨rfl, rfl⟩⟩
  case round =>
    obtain ⟨k, hk, rfl, hn, how⟩ := hrel
    by_cases hlt : k < 16
    · have hA := (HD.out.nw hn).a
      have c0 := hA.c0 k hlt
      have c1 := hA.c1 k hlt
      have c2 := hA.c2 k hlt
      have c3 := hA.c3 k hlt
      have c4 := hA.c4 k hlt
      have c5 := hA.c5 k hlt
      have HN := Lib.hid hn
      have HOW := Lib.hid how
      have HR := Lib.hid (rowL_succ (·.sure) f k)
      clear hA hn how
      go_wp2_with fail
      refine (sure1_any (f k) _).mono ?_
      rintro e w1 ⟨rfl, hn1⟩
      have hn2 : Nw wr w1 := (Nw.refl.alloc _).trans hn1
      have how := own_below hn2.b HOW.out
      have HN1 := Lib.hid (HN.out.trans hn2)
      have hs1 := HN1.out.b.size
      clear hn1 hn2
      go_wp2_with (at_builtin; refine wpList_append_ints _ rfl (.tmp 18) (.tmp 22) 29 rfl w.heap.size 31 i0 (.int .u64 0) 8 Try.underlying29 hi hz0 hz1 hz2 rfl _ _ _ rfl (how.alloc _) _ 1 1 .u64 [(f k).sure] _ rfl rfl (Ints.one _ _ _ _) (by unfold maxLen; omega) (by omega) (by simp; omega) ?_; intro v3 w3 hown3 hgrow3; have hb3 : Below w.heap.size w w3 := Below.grownRow (HN1.out.b.alloc hs1 _) hgrow3 (by simp; omega) (how.alloc _) (Nat.le_refl _); clear hgrow3; rw [← List.map_append] at hown3)
      go_roundw
      case rel => exact ⟨k + 1, by omega, by go_num, ⟨hb3⟩, by rw [HR.out]; exact hown3⟩
      case measure => simp [intOf]; omega
    · obtain rfl : k = 16 := by omega
      go_wp2_with fail
      go_ret
      exact ⟨_, rfl, by rw [rowL_length]; exact how, hn⟩
set_option maxHeartbeats 1000000 in
theorem sure_any (d b : Nat) (f : Nat → Wd) (w : World) (h : DevAt w d b f) :
    Calls Try.prog 14 #[.pointer (some ⟨d, 0, none⟩)] w (OwnU w (rowL (·.sure) f 16)) := by
  have HC := Lib.hid (sure_all d b f w h)
  clear h
  go_enter Try.func14, Try.ntmps14
  go_wp2_with fail
  refine HC.out.mono ?_
  rintro e w' ⟨v, rfl, h1, h2⟩
  go_wp2_with fail
  go_ret
  exact ⟨_, rfl, h1, h2⟩

set_option maxHeartbeats 1000000 in
theorem seen1_any (x : Wd) (w : World) :
    Calls Try.prog 25 #[aggW x] w fun e w' => e = .returned (.int .u64 x.seen) ∧ Nw w w' := by
  unfold aggW
  go_enter Try.func25, Try.ntmps25
  go_wp2_with fail
  go_ret
  exact ⟨rfl, Nw.refl.alloc _⟩
set_option maxHeartbeats 4000000 in
theorem seen_all (d b : Nat) (f : Nat → Wd) (w : World) (h : DevAt w d b f) :
    Calls Try.prog 24 #[.pointer (some ⟨d, 0, none⟩), .func (.func 25) #[] #[]] w (OwnU w (rowL (·.seen) f 16)) := by
  obtain ⟨i0, hi, hz0, hz1, hz2⟩ := info_parts8 info_u64
  have hs := h.s
  have HD := Lib.hid h
  clear h
  go_enter Try.func24, Try.ntmps24
  go_wp2_with fail
  go_loopw [14, 6, 4] (fun i p v wr => ∃ k : Nat, k ≤ 16 ∧ i = .int .i64 k ∧ Nw w wr ∧ wr.ownsRow w.heap.size 31 1 v k ((rowL (·.seen) f k).map (.int .u64))) (fun i _ _ _ => 16 - (intOf i).toNat)
  case atStart => exact ⟨0, by omega, rfl, Nw.refl, rfl, .inl ⟨rfl, rfl⟩⟩
  case round =>
    obtain ⟨k, hk, rfl, hn, how⟩ := hrel
    by_cases hlt : k < 16
    · have hA := (HD.out.nw hn).a
      have c0 := hA.c0 k hlt
      have c1 := hA.c1 k hlt
      have c2 := hA.c2 k hlt
      have c3 := hA.c3 k hlt
      have c4 := hA.c4 k hlt
      have c5 := hA.c5 k hlt
      have HN := Lib.hid hn
      have HOW := Lib.hid how
      have HR := Lib.hid (rowL_succ (·.seen) f k)
      clear hA hn how
      go_wp2_with fail
      refine (seen1_any (f k) _).mono ?_
      rintro e w1 ⟨rfl, hn1⟩
      have hn2 : Nw wr w1 := (Nw.refl.alloc _).trans hn1
      have how := own_below hn2.b HOW.out
      have HN1 := Lib.hid (HN.out.trans hn2)
      have hs1 := HN1.out.b.size
      clear hn1 hn2
      go_wp2_with (at_builtin; refine wpList_append_ints _ rfl (.tmp 18) (.tmp 22) 29 rfl w.heap.size 31 i0 (.int .u64 0) 8 Try.underlying29 hi hz0 hz1 hz2 rfl _ _ _ rfl (how.alloc _) _ 1 1 .u64 [(f k).seen] _ rfl rfl (Ints.one _ _ _ _) (by unfold maxLen; omega) (by omega) (by simp; omega) ?_; intro v3 w3 hown3 hgrow3; have hb3 : Below w.heap.size w w3 := Below.grownRow (HN1.out.b.alloc hs1 _) hgrow3 (by simp; omega) (how.alloc _) (Nat.le_refl _); clear hgrow3; rw [← List.map_append] at hown3)
      go_roundw
      case rel => exact ⟨k + 1, by omega, by go_num, ⟨hb3⟩, by rw [HR.out]; exact hown3⟩
      case measure => simp [intOf]; omega
    · obtain rfl : k = 16 := by omega
      go_wp2_with fail
      go_ret
      exact ⟨_, rfl, by rw [rowL_length]; exact how, hn⟩
set_option maxHeartbeats 1000000 in
theorem seen_any (d b : Nat) (f : Nat → Wd) (w : World) (h : DevAt w d b f) :
    Calls Try.prog 13 #[.pointer (some ⟨d, 0, none⟩)] w (OwnU w (rowL (·.seen) f 16)) := by
  have HC := Lib.hid (seen_all d b f w h)
  clear h
  go_enter Try.func13, Try.ntmps13
  go_wp2_with fail
  refine HC.out.mono ?_
  rintro e w' ⟨v, rfl, h1, h2⟩
  go_wp2_with fail
  go_ret
  exact ⟨_, rfl, h1, h2⟩

end Go.Proofs.Ytfjobldfdakfpaa
