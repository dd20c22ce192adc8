/-
  LOCKS: Want.
-/
import Derived.Test.YtdjncbfoecoedaaLkE
namespace Go.Proofs.Ytdjncbfoecoedaa
open Go.RowKit Go.Shelf
set_option linter.unusedVariables false

/-- What Want does: the table behind it, its answer, its error. -/
def wantS (s : Nat → Lk) (x lock : Int) : (Nat → Lk) × Bool × Int :=
  if lock < 0 ∨ 70 ≤ lock then (s, false, 1) else if (heldL s x 70).any (geB lock) = true then (s, false, 1) else if (waitsAt s x 70).isSome = true then (s, false, 3)
  else if (s lock.toNat).h ≠ 0 then (updF s lock.toNat ⟨(s lock.toNat).h, (s lock.toNat).q ++ [x]⟩, false, 0) else (updF s lock.toNat ⟨x + 1, (s lock.toNat).q⟩, true, 0)
theorem at_lit (i : Nat) : 1 + i * 2 + 1 = 1 + i * 2 + 1 := rfl

set_option maxRecDepth 100000 in
set_option maxHeartbeats 4000000 in
theorem want_out (t : Nat) (n : Int) (s : Nat → Lk) (a : Nat → Option Addr) (c : Nat → Nat) (hl : ∀ i, i < 70 → (s i).q.length ≤ 1000000) (x : Int) (h0 : 0 ≤ x) (hx : x < n) (hn : n ≤ 4) (lock : Int) (hi : lock < 0 ∨ 70 ≤ lock) (w : World) (h : TAt w t n s a c) :
    Calls Try.prog 9 #[.pointer (some ⟨t, 0, none⟩), .int .i64 x, .int .i64 lock] w fun e w' => e = .returned (.tuple #[.bool false, .int .i64 1]) ∧ Nw w w' := by
  have HT := Lib.hid h
  have HL := Lib.hid hl
  have hw := h.w
  have hs0 := h.lt
  clear h hl
  have hN0 : Nw w (w.alloc (.cells #[.int .i64 lock] 3)) := Nw.refl.alloc _
  have HN0 := Lib.hid hN0
  have hw1 := (HT.out.nw hN0).w
  have hB : (w.alloc (.cells #[.int .i64 lock] 3)).cell? ⟨w.heap.size, 0, none⟩ = some (.int .i64 lock) := by have := World.cell?_alloc_new w #[.int .i64 lock] 3 0; rw [this]; rfl
  have HB := Lib.hid hB
  clear hN0 hB hw
  have HI := Lib.hid hi
  clear hi
  have hx0 : ¬ x < 0 := by omega
  have hxn : ¬ n ≤ x := by omega
  go_enter Try.func9, Try.ntmps9
  go_wp2_with fail
  refine (at_out t lock HI.out _).mono ?_
  rintro e w' ⟨rfl, rfl⟩
  go_wp2_with fail
  go_ret2
  exact ⟨rfl, HN0.out⟩

set_option maxRecDepth 100000 in
set_option maxHeartbeats 4000000 in
theorem want_held (t : Nat) (n : Int) (s : Nat → Lk) (a : Nat → Option Addr) (c : Nat → Nat) (hl : ∀ i, i < 70 → (s i).q.length ≤ 1000000) (x : Int) (h0 : 0 ≤ x) (hx : x < n) (hn : n ≤ 4) (i : Nat) (hi : i < 70) (han : (heldL s x 70).any (geB i) = true) (w : World) (h : TAt w t n s a c) :
    Calls Try.prog 9 #[.pointer (some ⟨t, 0, none⟩), .int .i64 x, .int .i64 (i : Int)] w fun e w' => e = .returned (.tuple #[.bool false, .int .i64 1]) ∧ Nw w w' := by
  have HT := Lib.hid h
  have HL := Lib.hid hl
  have hw := h.w
  have hs0 := h.lt
  clear h hl
  have hN0 : Nw w (w.alloc (.cells #[.int .i64 (i : Int)] 3)) := Nw.refl.alloc _
  have HN0 := Lib.hid hN0
  have hw1 := (HT.out.nw hN0).w
  have hB : (w.alloc (.cells #[.int .i64 (i : Int)] 3)).cell? ⟨w.heap.size, 0, none⟩ = some (.int .i64 (i : Int)) := by have := World.cell?_alloc_new w #[.int .i64 (i : Int)] 3 0; rw [this]; rfl
  have HB := Lib.hid hB
  clear hN0 hB hw
  have HAN := Lib.hid han
  clear han
  have hx0 : ¬ x < 0 := by omega
  have hxn : ¬ n ≤ x := by omega
  have hsz : (w.alloc (.cells #[.int .i64 (i : Int)] 3)).heap.size = w.heap.size + 1 := by simp
  have HLEN := Lib.hid (heldL_length s x 70)
  go_enter Try.func9, Try.ntmps9
  go_wp2_with fail
  refine (at_any t i hi _).mono ?_
  rintro e w' ⟨rfl, rfl⟩
  clear hsz
  generalize hW1 : w.alloc (.cells #[.int .i64 (i : Int)] 3) = W1 at *
  have HC1 := Lib.hid (held_any t n s a c x h0 (by omega) W1 (HT.out.nw HN0.out))
  go_wp2_with fail
  refine HC1.out.mono ?_
  intro e w1 ho
  obtain ⟨ah, ch, rfl, hIh, hN1, _⟩ := ho.slice
  have HC2 := Lib.hid (want_contains w.heap.size (i : Int) ah _ ch (heldL s x 70) rfl (by have := HLEN.out; omega) _ w1 ((hN1.b.cell (p := ⟨w.heap.size, 0, none⟩) (by show w.heap.size < _; rw [← hW1]; simp)).trans HB.out) hIh)
  have HN1 := Lib.hid (HN0.out.trans hN1)
  rw [HAN.out] at HC2
  clear ho hIh hN1 hW1
  go_wp2_with fail
  refine HC2.out.mono ?_
  rintro e w2 ⟨rfl, rfl⟩
  go_wp2_with fail
  go_ret2
  exact ⟨rfl, HN1.out⟩

set_option maxRecDepth 100000 in
set_option maxHeartbeats 4000000 in
theorem want_waits (t : Nat) (n : Int) (s : Nat → Lk) (a : Nat → Option Addr) (c : Nat → Nat) (hl : ∀ i, i < 70 → (s i).q.length ≤ 1000000) (x : Int) (h0 : 0 ≤ x) (hx : x < n) (hn : n ≤ 4) (i : Nat) (hi : i < 70) (han : (heldL s x 70).any (geB i) = false) (m : Nat) (hwa : waitsAt s x 70 = some m) (w : World) (h : TAt w t n s a c) :
    Calls Try.prog 9 #[.pointer (some ⟨t, 0, none⟩), .int .i64 x, .int .i64 (i : Int)] w fun e w' => e = .returned (.tuple #[.bool false, .int .i64 3]) ∧ Nw w w' := by
  have HT := Lib.hid h
  have HL := Lib.hid hl
  have hw := h.w
  have hs0 := h.lt
  clear h hl
  have hN0 : Nw w (w.alloc (.cells #[.int .i64 (i : Int)] 3)) := Nw.refl.alloc _
  have HN0 := Lib.hid hN0
  have hw1 := (HT.out.nw hN0).w
  have hB : (w.alloc (.cells #[.int .i64 (i : Int)] 3)).cell? ⟨w.heap.size, 0, none⟩ = some (.int .i64 (i : Int)) := by have := World.cell?_alloc_new w #[.int .i64 (i : Int)] 3 0; rw [this]; rfl
  have HB := Lib.hid hB
  clear hN0 hB hw
  have HAN := Lib.hid han
  have HWA := Lib.hid hwa
  clear han hwa
  have hx0 : ¬ x < 0 := by omega
  have hxn : ¬ n ≤ x := by omega
  have hsz : (w.alloc (.cells #[.int .i64 (i : Int)] 3)).heap.size = w.heap.size + 1 := by simp
  have HLEN := Lib.hid (heldL_length s x 70)
  go_enter Try.func9, Try.ntmps9
  go_wp2_with fail
  refine (at_any t i hi _).mono ?_
  rintro e w' ⟨rfl, rfl⟩
  clear hsz
  generalize hW1 : w.alloc (.cells #[.int .i64 (i : Int)] 3) = W1 at *
  have HC1 := Lib.hid (held_any t n s a c x h0 (by omega) W1 (HT.out.nw HN0.out))
  go_wp2_with fail
  refine HC1.out.mono ?_
  intro e w1 ho
  obtain ⟨ah, ch, rfl, hIh, hN1, _⟩ := ho.slice
  have HC2 := Lib.hid (want_contains w.heap.size (i : Int) ah _ ch (heldL s x 70) rfl (by have := HLEN.out; omega) _ w1 ((hN1.b.cell (p := ⟨w.heap.size, 0, none⟩) (by show w.heap.size < _; rw [← hW1]; simp)).trans HB.out) hIh)
  have HN1 := Lib.hid (HN0.out.trans hN1)
  rw [HAN.out] at HC2
  clear ho hIh hN1 hW1
  go_wp2_with fail
  refine HC2.out.mono ?_
  rintro e w2 ⟨rfl, rfl⟩
  have HC3 := Lib.hid (waits_any t n s a c HL.out x w1 (HT.out.nw HN1.out))
  rw [HWA.out] at HC3
  go_wp2_with fail
  refine HC3.out.mono ?_
  rintro e w2 ⟨rfl, hN2⟩
  have HN2 := Lib.hid (HN1.out.trans hN2)
  have HT2 := Lib.hid (HT.out.nw HN2.out)
  clear hN2
  go_wp2_with fail
  go_ret2
  exact ⟨rfl, HN2.out⟩

set_option maxRecDepth 100000 in
set_option maxHeartbeats 4000000 in
theorem want_free (t : Nat) (n : Int) (s : Nat → Lk) (a : Nat → Option Addr) (c : Nat → Nat) (hl : ∀ i, i < 70 → (s i).q.length ≤ 1000000) (x : Int) (h0 : 0 ≤ x) (hx : x < n) (hn : n ≤ 4) (i : Nat) (hi : i < 70) (han : (heldL s x 70).any (geB i) = false) (hwa : waitsAt s x 70 = none) (hh : (s i).h = 0) (w : World) (h : TAt w t n s a c) :
    Calls Try.prog 9 #[.pointer (some ⟨t, 0, none⟩), .int .i64 x, .int .i64 (i : Int)] w (StepT w t n a (updF s i ⟨x + 1, (s i).q⟩) (.tuple #[.bool true, .int .i64 0])) := by
  have HT := Lib.hid h
  have HL := Lib.hid hl
  have hw := h.w
  have hs0 := h.lt
  clear h hl
  have hN0 : Nw w (w.alloc (.cells #[.int .i64 (i : Int)] 3)) := Nw.refl.alloc _
  have HN0 := Lib.hid hN0
  have hw1 := (HT.out.nw hN0).w
  have hB : (w.alloc (.cells #[.int .i64 (i : Int)] 3)).cell? ⟨w.heap.size, 0, none⟩ = some (.int .i64 (i : Int)) := by have := World.cell?_alloc_new w #[.int .i64 (i : Int)] 3 0; rw [this]; rfl
  have HB := Lib.hid hB
  clear hN0 hB hw
  have HAN := Lib.hid han
  have HWA := Lib.hid hwa
  have HH := Lib.hid hh
  clear han hwa hh
  have hx0 : ¬ x < 0 := by omega
  have hxn : ¬ n ≤ x := by omega
  have hsz : (w.alloc (.cells #[.int .i64 (i : Int)] 3)).heap.size = w.heap.size + 1 := by simp
  have HLEN := Lib.hid (heldL_length s x 70)
  go_enter Try.func9, Try.ntmps9
  go_wp2_with fail
  refine (at_any t i hi _).mono ?_
  rintro e w' ⟨rfl, rfl⟩
  clear hsz
  generalize hW1 : w.alloc (.cells #[.int .i64 (i : Int)] 3) = W1 at *
  have HC1 := Lib.hid (held_any t n s a c x h0 (by omega) W1 (HT.out.nw HN0.out))
  go_wp2_with fail
  refine HC1.out.mono ?_
  intro e w1 ho
  obtain ⟨ah, ch, rfl, hIh, hN1, _⟩ := ho.slice
  have HC2 := Lib.hid (want_contains w.heap.size (i : Int) ah _ ch (heldL s x 70) rfl (by have := HLEN.out; omega) _ w1 ((hN1.b.cell (p := ⟨w.heap.size, 0, none⟩) (by show w.heap.size < _; rw [← hW1]; simp)).trans HB.out) hIh)
  have HN1 := Lib.hid (HN0.out.trans hN1)
  rw [HAN.out] at HC2
  clear ho hIh hN1 hW1
  go_wp2_with fail
  refine HC2.out.mono ?_
  rintro e w2 ⟨rfl, rfl⟩
  have HC3 := Lib.hid (waits_any t n s a c HL.out x w1 (HT.out.nw HN1.out))
  rw [HWA.out] at HC3
  go_wp2_with fail
  refine HC3.out.mono ?_
  rintro e w2 ⟨rfl, hN2⟩
  have HN2 := Lib.hid (HN1.out.trans hN2)
  have HT2 := Lib.hid (HT.out.nw HN2.out)
  clear hN2
  have c1 := HT2.out.h i hi
  have f1 := HT2.out.fr (1 + i * 2)
  rw [HH.out] at c1
  go_wp2_with fail
  go_ret2
  exact ⟨rfl, a, c, (Moved.nw HT.out HN2.out).then (HT2.out.ho i hi (x + 1))⟩

set_option maxRecDepth 100000 in
set_option maxHeartbeats 4000000 in
theorem want_queue (t : Nat) (n : Int) (s : Nat → Lk) (a : Nat → Option Addr) (c : Nat → Nat) (hl : ∀ i, i < 70 → (s i).q.length ≤ 1000000) (x : Int) (h0 : 0 ≤ x) (hx : x < n) (hn : n ≤ 4) (i : Nat) (hi : i < 70) (han : (heldL s x 70).any (geB i) = false) (hwa : waitsAt s x 70 = none) (hh : (s i).h ≠ 0) (w : World) (h : TAt w t n s a c) :
    Calls Try.prog 9 #[.pointer (some ⟨t, 0, none⟩), .int .i64 x, .int .i64 (i : Int)] w (StepT w t n a (updF s i ⟨(s i).h, (s i).q ++ [x]⟩) (.tuple #[.bool false, .int .i64 0])) := by
  obtain ⟨i0, hi0, hz0, hz1, hz2⟩ := info_parts8 info_int
  have HT := Lib.hid h
  have HL := Lib.hid hl
  have hw := h.w
  have hs0 := h.lt
  clear h hl
  have hN0 : Nw w (w.alloc (.cells #[.int .i64 (i : Int)] 3)) := Nw.refl.alloc _
  have HN0 := Lib.hid hN0
  have hw1 := (HT.out.nw hN0).w
  have hB : (w.alloc (.cells #[.int .i64 (i : Int)] 3)).cell? ⟨w.heap.size, 0, none⟩ = some (.int .i64 (i : Int)) := by have := World.cell?_alloc_new w #[.int .i64 (i : Int)] 3 0; rw [this]; rfl
  have HB := Lib.hid hB
  clear hN0 hB hw
  have HAN := Lib.hid han
  have HWA := Lib.hid hwa
  have hhb : ((s i).h != 0) = true := by rw [bne_iff_ne]; exact hh
  clear han hwa hh
  have hx0 : ¬ x < 0 := by omega
  have hxn : ¬ n ≤ x := by omega
  have hsz : (w.alloc (.cells #[.int .i64 (i : Int)] 3)).heap.size = w.heap.size + 1 := by simp
  have HLEN := Lib.hid (heldL_length s x 70)
  go_enter Try.func9, Try.ntmps9
  go_wp2_with fail
  refine (at_any t i hi _).mono ?_
  rintro e w' ⟨rfl, rfl⟩
  clear hsz
  generalize hW1 : w.alloc (.cells #[.int .i64 (i : Int)] 3) = W1 at *
  have HC1 := Lib.hid (held_any t n s a c x h0 (by omega) W1 (HT.out.nw HN0.out))
  go_wp2_with fail
  refine HC1.out.mono ?_
  intro e w1 ho
  obtain ⟨ah, ch, rfl, hIh, hN1, _⟩ := ho.slice
  have HC2 := Lib.hid (want_contains w.heap.size (i : Int) ah _ ch (heldL s x 70) rfl (by have := HLEN.out; omega) _ w1 ((hN1.b.cell (p := ⟨w.heap.size, 0, none⟩) (by show w.heap.size < _; rw [← hW1]; simp)).trans HB.out) hIh)
  have HN1 := Lib.hid (HN0.out.trans hN1)
  rw [HAN.out] at HC2
  clear ho hIh hN1 hW1
  go_wp2_with fail
  refine HC2.out.mono ?_
  rintro e w2 ⟨rfl, rfl⟩
  have HC3 := Lib.hid (waits_any t n s a c HL.out x w1 (HT.out.nw HN1.out))
  rw [HWA.out] at HC3
  go_wp2_with fail
  refine HC3.out.mono ?_
  rintro e w2 ⟨rfl, hN2⟩
  have HN2 := Lib.hid (HN1.out.trans hN2)
  have HT2 := Lib.hid (HT.out.nw HN2.out)
  clear hN2
  have c1 := HT2.out.h i hi
  have c2 := HT2.out.q i hi
  go_wp2_with (at_builtin; refine wpList_append_qu _ rfl (.tmp 53) (.tmp 55) 30 rfl 3 i0 Try.underlying30 hi0 hz0 hz1 hz2 (a i) (c i) (s i).q rfl ((HT2.out.nw (Nw.refl.alloc _)).u i hi) (HL.out i hi) ⟨w2.heap.size, 0, none⟩ 1 x rfl (by have := World.cell?_alloc_new w2 #[.int .i64 x] 3 0; rw [this]; rfl) ?_; intro a1 c1' w3 hq3 hu3 hf3; have hm3 := (HT2.out.nw (Nw.refl.alloc (.cells #[.int .i64 x] 3))).mid hi hu3; have d1 := (hm3.2.1 (1 + i * 2 + 1)).trans ((HT2.out.nw (Nw.refl.alloc (.cells #[.int .i64 x] 3))).q i hi); have f1 := (hm3.2.2 (1 + i * 2 + 1)).trans ((HT2.out.nw (Nw.refl.alloc (.cells #[.int .i64 x] 3))).fr _); have HM := Lib.hid ((HT2.out.nw (Nw.refl.alloc (.cells #[.int .i64 x] 3))).setQ i hi a1 c1' ((s i).q ++ [x]) hu3 hq3 hf3); rw [show ((s i).q ++ [x]).length = (s i).q.length + 1 from by simp] at HM; clear hm3 hq3 hu3 hf3)
  go_ret2
  exact ⟨rfl, _, _, ((Moved.nw HT.out HN2.out).nw2 (Nw.refl.alloc _)).then HM.out⟩

/-- WANT, whatever is wanted. -/
theorem want_any (t : Nat) (n : Int) (s : Nat → Lk) (a : Nat → Option Addr) (c : Nat → Nat) (hl : ∀ i, i < 70 → (s i).q.length ≤ 1000000) (x : Int) (h0 : 0 ≤ x) (hx : x < n) (hn : n ≤ 4) (lock : Int) (w : World) (h : TAt w t n s a c) :
    Calls Try.prog 9 #[.pointer (some ⟨t, 0, none⟩), .int .i64 x, .int .i64 lock] w (StepT w t n a (wantS s x lock).1 (.tuple #[.bool (wantS s x lock).2.1, .int .i64 (wantS s x lock).2.2])) := by
  by_cases ho : lock < 0 ∨ 70 ≤ lock
  · rw [wantS, if_pos ho]
    exact (want_out t n s a c hl x h0 hx hn lock ho w h).mono fun _ _ ⟨h1, h2⟩ => ⟨h1, a, c, .nw h h2⟩
  · obtain ⟨i, rfl⟩ : ∃ i : Nat, lock = (i : Int) := ⟨lock.toNat, by omega⟩
    have hi : i < 70 := by omega
    have hti : ((i : Int)).toNat = i := by omega
    rw [wantS, if_neg ho, hti]
    cases han : (heldL s x 70).any (geB i)
    · rw [if_neg (by simp)]
      cases hwa : waitsAt s x 70 with
      | some m =>
        rw [if_pos (show (some m).isSome = true from rfl)]
        exact (want_waits t n s a c hl x h0 hx hn i hi han m hwa w h).mono fun _ _ ⟨h1, h2⟩ => ⟨h1, a, c, .nw h h2⟩
      | none =>
        rw [if_neg (by simp)]
        by_cases hh : (s i).h = 0
        · rw [if_neg (fun k => k hh)]
          exact want_free t n s a c hl x h0 hx hn i hi han hwa hh w h
        · rw [if_pos hh]
          exact want_queue t n s a c hl x h0 hx hn i hi han hwa hh w h
    · rw [if_pos rfl]
      exact (want_held t n s a c hl x h0 hx hn i hi han w h).mono fun _ _ ⟨h1, h2⟩ => ⟨h1, a, c, .nw h h2⟩

end Go.Proofs.Ytdjncbfoecoedaa
