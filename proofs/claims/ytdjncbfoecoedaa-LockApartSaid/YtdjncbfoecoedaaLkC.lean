/-
  LOCKS: Clone, Queue, Waits.
-/
import Derived.Test.YtdjncbfoecoedaaLkB
namespace Go.Proofs.Ytdjncbfoecoedaa
open Go.RowKit Go.Shelf
set_option linter.unusedVariables false

/-- What Clone tells. -/
def CloneP (w : World) (xs : List Int) (e : Ending) (w' : World) : Prop := ∃ a c, e = .returned (.slice a xs.length c) ∧ Ints w'.heap.size .i64 w' a xs ∧ Nw w w' ∧ xs.length ≤ c
attribute [local go_sem] Lib.run_eql_slice_nil in
set_option maxHeartbeats 2000000 in
theorem clone_nil (w : World) :
    Calls Try.prog 25 #[.slice none 0 0] w (CloneP w []) := by
  have hu := Try.underlying30
  go_enter Try.func25, Try.ntmps25
  go_wp2_with fail
  go_ret
  exact ⟨none, 0, rfl, .inl rfl, Nw.refl, Nat.le_refl _⟩
attribute [local go_sem] Lib.run_eql_slice_nil in
set_option maxHeartbeats 2000000 in
theorem clone_some (b off n c : Nat) (xs : List Int) (hx : xs.length = n) (hn : n ≤ 1000000) (w : World) (hI : Ints w.heap.size .i64 w (some ⟨b, off, none⟩) xs) :
    Calls Try.prog 25 #[.slice (some ⟨b, off, none⟩) n c] w (CloneP w xs) := by
  obtain ⟨i0, hi, hz0, hz1, hz2⟩ := info_parts8 info_int
  have hu := Try.underlying30
  have HX := Lib.hid hx
  have HI := Lib.hid hI
  clear hx hI
  go_enter Try.func25, Try.ntmps25
  have how : ∀ W, Nw (w.alloc (.cells #[] 3)) W → W.ownsRow w.heap.size 3 1 (.slice (some ⟨w.heap.size, 0, none⟩) 0 0) 0 ([] : List Value) := fun W k =>
    ⟨rfl, .inr ⟨w.heap.size, 0, #[], rfl, Nat.le_refl _, (k.b.block w.heap.size (by simp)).trans (World.alloc_heap_new w _), Nat.le_refl _, Nat.zero_le _, rfl, rfl⟩⟩
  go_wp2_with (at_builtin; refine wpList_append_ints _ rfl (.tmp 5) (.tmp 6) 30 rfl w.heap.size 3 i0 (.int .i64 0) 8 Try.underlying30 hi hz0 hz1 hz2 rfl _ 0 _ rfl (how _ Nw.refl) _ n c .i64 xs w.heap.size rfl HX.out (HI.out.below ((Below.refl _ w).alloc (Nat.le_refl _) _)) (by unfold maxLen; omega) (by omega) (by simp) ?_; intro v3 w3 hown3 hgrow3; have hb3 : Below w.heap.size w w3 := Below.grownRow ((Below.refl _ w).alloc (Nat.le_refl _) _) hgrow3 (by simp) (how _ Nw.refl) (Nat.le_refl _); clear hgrow3; simp only [List.nil_append, Nat.zero_add] at hown3)
  go_ret
  obtain ⟨a', c', rfl, _, hI'⟩ := Ints.of_owns hown3
  exact ⟨a', c', by rw [HX.out]; rfl, hI', ⟨hb3⟩, by rw [HX.out]; exact own_cap hown3⟩
theorem clone_any (a : Option Addr) (c : Nat) (xs : List Int) (hn : xs.length ≤ 1000000) (w : World) (h : Qu w a c xs) :
    Calls Try.prog 25 #[.slice a xs.length c] w (CloneP w xs) := by
  rcases h with ⟨rfl, rfl, rfl⟩ | ⟨b, off, rfl, h⟩
  · exact clone_nil w
  · exact clone_some b off _ c xs rfl hn w (Qu.ints (c := c) (.inr ⟨b, off, rfl, h⟩))
set_option maxHeartbeats 1000000 in
theorem queue_any (t : Nat) (n : Int) (s : Nat → Lk) (a : Nat → Option Addr) (c : Nat → Nat) (i : Nat) (hi : i < 70) (hl : (s i).q.length ≤ 1000000) (w : World) (h : TAt w t n s a c) :
    Calls Try.prog 14 #[.pointer (some ⟨t, 0, none⟩), .int .i64 (i : Int)] w (CloneP w (s i).q) := by
  have hq := h.q i hi
  have HC := Lib.hid (clone_any (a i) (c i) (s i).q hl w (h.u i hi))
  clear h
  go_enter Try.func14, Try.ntmps14
  go_wp2_with fail
  refine (at_any t i hi _).mono ?_
  rintro e w' ⟨rfl, rfl⟩
  go_wp2_with fail
  refine HC.out.mono ?_
  rintro e w' ⟨a', c', rfl, h1, h2, h3⟩
  go_wp2_with fail
  go_ret
  exact ⟨a', c', rfl, h1, h2, h3⟩
/-- The first lock below k for which x waits. -/
def waitsAt (s : Nat → Lk) (x : Int) (k : Nat) : Option Nat := (List.range k).find? fun i => decide (x ∈ (s i).q)
theorem waitsAt_none {s : Nat → Lk} {x : Int} {k : Nat} : waitsAt s x k = none ↔ ∀ i, i < k → x ∉ (s i).q := by
  unfold waitsAt
  rw [List.find?_eq_none]
  simp
theorem waitsAt_succ {s : Nat → Lk} {x : Int} {k : Nat} (h : ∀ i, i < k → x ∉ (s i).q) (hx : x ∈ (s k).q) {m : Nat} (hm : k < m) : waitsAt s x m = some k := by
  unfold waitsAt
  rw [List.find?_range_eq_some]
  exact ⟨by simpa using hx, by simpa using hm, fun j hj => by simpa using h j hj⟩
/-- What Waits tells. -/
def WaitsP (o : Option Nat) (w : World) (e : Ending) (w' : World) : Prop := e = .returned (.tuple #[.int .i64 ((o.getD 0 : Nat) : Int), .bool o.isSome]) ∧ Nw w w'
set_option maxRecDepth 100000 in
set_option maxHeartbeats 4000000 in
theorem waits_any (t : Nat) (n : Int) (s : Nat → Lk) (a : Nat → Option Addr) (c : Nat → Nat) (hl : ∀ i, i < 70 → (s i).q.length ≤ 1000000) (x : Int) (w : World) (h : TAt w t n s a c) :
    Calls Try.prog 11 #[.pointer (some ⟨t, 0, none⟩), .int .i64 x] w (WaitsP (waitsAt s x 70) w) := by
  have HT := Lib.hid h
  have HL := Lib.hid hl
  clear h hl
  go_enter Try.func11, Try.ntmps11
  go_wp2_with fail
  go_loopw [7, 6] (fun i p wr => ∃ k : Nat, k ≤ 70 ∧ i = .int .i64 k ∧ Nw w wr ∧ ∀ j, j < k → x ∉ (s j).q) (fun i _ _ => 70 - (intOf i).toNat)
  case atStart => exact ⟨0, by omega, rfl, Nw.refl, fun j hj => by omega⟩
  case round =>
    obtain ⟨k, hk, rfl, hn, hnot⟩ := hrel
    have HN := Lib.hid hn
    have HNOT := Lib.hid hnot
    clear hn hnot
    by_cases hlt : k < 70
    · have HQ := Lib.hid (queue_any t n s a c k hlt (HL.out k hlt) wr (HT.out.nw HN.out))
      have hlen := HL.out k hlt
      go_wp2_with fail
      refine HQ.out.mono ?_
      rintro e w1 ⟨a', c', rfl, h1, h2, _⟩
      have HC := Lib.hid (contains_any a' _ c' (s k).q rfl hlen x _ w1 h1)
      have HN1 := Lib.hid (HN.out.trans h2)
      clear h1 h2
      by_cases hx : x ∈ (s k).q
      · have HX := Lib.hid hx
        rw [decide_eq_true hx] at HC
        clear hx
        go_wp2_with fail
        refine HC.out.mono ?_
        rintro e w2 ⟨rfl, rfl⟩
        go_wp2_with fail
        go_ret2
        exact ⟨by rw [waitsAt_succ HNOT.out HX.out hlt]; rfl, HN1.out⟩
      · have HX := Lib.hid hx
        rw [decide_eq_false hx] at HC
        clear hx
        go_wp2_with fail
        refine HC.out.mono ?_
        rintro e w2 ⟨rfl, rfl⟩
        go_wp2_with fail
        go_roundw
        case rel => exact ⟨k + 1, by omega, by go_num, HN1.out, fun j hj => by
          by_cases e : j = k
          · subst e; exact HX.out
          · exact HNOT.out j (by omega)⟩
        case measure => simp [intOf]; omega
    · obtain rfl : k = 70 := by omega
      go_wp2_with fail
      go_ret2
      exact ⟨by rw [waitsAt_none.2 HNOT.out]; rfl, HN.out⟩

end Go.Proofs.Ytdjncbfoecoedaa
