/-
  DEVICES: settle; what is done with a word.
-/
import Derived.Test.YtkopfnldgnkkoaaDvA
namespace Go.Proofs.Ytkopfnldgnkkoaa
open Go.RowKit Go.Shelf
set_option linter.unusedVariables false

def settleW (x : Wd) (v : Int) : Wd := { x with sure := v, loose := false, flushed := false, again := false, value := 0 }
def flushW (x : Wd) : Wd := { x with loose := true, flushed := true, again := false, value := x.seen }
def evictW (x : Wd) : Wd := settleW x x.seen
set_option maxHeartbeats 1000000 in
theorem settle_any (b n : Nat) (f : Nat → Wd) (k : Nat) (hk : k < n) (v : Int) (w : World) (h : WAt w b n f) :
    Calls Try.prog 65 #[.pointer (some ⟨b, k * 6, none⟩), .int .u64 v] w fun e w' => (∃ u, e = .returned u) ∧ WAt w' b n (upd f k (settleW (f k) v)) ∧ Up b w w' := by
  have c0 := h.c0 k hk
  have c2 := h.c2 k hk
  have c3 := h.c3 k hk
  have c4 := h.c4 k hk
  have c5 := h.c5 k hk
  have f0 := h.fr (k * 6)
  have f2 := h.fr (k * 6 + 2)
  have f3 := h.fr (k * 6 + 3)
  have f4 := h.fr (k * 6 + 4)
  have f5 := h.fr (k * 6 + 5)
  have HH := Lib.hid h
  clear h
  go_enter Try.func65, Try.ntmps65
  go_wp2_with fail
  go_end0
  have u := (((((Up.refl b w).set (k * 6) (.int .u64 v)).set (k * 6 + 2) (.bool false)).set (k * 6 + 2 + 1) (.bool false)).set (k * 6 + 2 + 2) (.bool false)).set (k * 6 + 2 + 3) (.int .u64 0)
  refine ⟨⟨_, rfl⟩, ?_, u⟩
  have := ((((HH.out.set0 k hk v).set2 k hk false).set3 k hk false).set4 k hk false).set5 k hk 0
  simpa only [upd_upd, upd_same, settleW] using this
set_option maxHeartbeats 1000000 in
theorem flush1_any (b n : Nat) (f : Nat → Wd) (k : Nat) (hk : k < n) (w : World) (h : WAt w b n f) :
    Calls Try.prog 99 #[.pointer (some ⟨b, k * 6, none⟩)] w fun e w' => (∃ u, e = .returned u) ∧ WAt w' b n (upd f k (flushW (f k))) ∧ Up b w w' := by
  have c1 := h.c1 k hk
  have c2 := h.c2 k hk
  have c3 := h.c3 k hk
  have c4 := h.c4 k hk
  have c5 := h.c5 k hk
  have f2 := h.fr (k * 6 + 2)
  have f3 := h.fr (k * 6 + 3)
  have f4 := h.fr (k * 6 + 4)
  have f5 := h.fr (k * 6 + 5)
  have HH := Lib.hid h
  clear h
  go_enter Try.func99, Try.ntmps99
  go_wp2_with fail
  go_end0
  have u := ((((Up.refl b w).set (k * 6 + 2) (.bool true)).set (k * 6 + 2 + 1) (.bool true)).set (k * 6 + 2 + 2) (.bool false)).set (k * 6 + 2 + 3) (.int .u64 (f k).seen)
  refine ⟨⟨_, rfl⟩, ?_, u⟩
  have := (((HH.out.set2 k hk true).set3 k hk true).set4 k hk false).set5 k hk (f k).seen
  simpa only [upd_upd, upd_same, flushW] using this
set_option maxHeartbeats 1000000 in
theorem evict1_any (b n : Nat) (f : Nat → Wd) (k : Nat) (hk : k < n) (w : World) (h : WAt w b n f) :
    Calls Try.prog 64 #[.pointer (some ⟨b, k * 6, none⟩)] w fun e w' => (∃ u, e = .returned u) ∧ WAt w' b n (upd f k (evictW (f k))) ∧ Up b w w' := by
  have c1 := h.c1 k hk
  have HC := Lib.hid (settle_any b n f k hk (f k).seen w h)
  clear h
  go_enter Try.func64, Try.ntmps64
  go_wp2_with fail
  refine HC.out.mono ?_
  rintro e w' ⟨⟨u, rfl⟩, h1, h2⟩
  go_wp2_with fail
  go_end0
  exact ⟨⟨_, rfl⟩, h1, h2⟩

def zeroW : Wd := ⟨0, 0, false, false, false, 0⟩
theorem info_word : (Try.prog.info? 110).map (fun i => (i.zero, i.size, i.bytes)) = some (some (.agg #[.int .u64 0, .int .u64 0, .bool false, .bool false, .bool false, .int .u64 0]), 6, 32) := by kernel_rfl
def zeroCells (N : Nat) : Array Value := madeCells (Value.agg #[.int .u64 0, .int .u64 0, .bool false, .bool false, .bool false, .int .u64 0]).cells (N * 6)
theorem zero_get (N j : Nat) (hj : j < N * 6) : (zeroCells N)[j]? = (#[Value.int .u64 0, .int .u64 0, .bool false, .bool false, .bool false, .int .u64 0])[j % 6]? := by
  unfold zeroCells madeCells
  simp [Value.cells, hj]
  rw [List.getElem?_eq_getElem (by simp only [List.length_cons, List.length_nil]; omega)]
  rfl
theorem made_at (w : World) (N : Nat) : WAt (w.alloc (.cells (zeroCells N) 110)) w.heap.size N (fun _ => zeroW) := by
  have hg : ∀ j, j < N * 6 → (w.alloc (.cells (zeroCells N) 110)).cell? ⟨w.heap.size, j, none⟩ = (#[Value.int .u64 0, .int .u64 0, .bool false, .bool false, .bool false, .int .u64 0])[j % 6]? := fun j hj => by
    rw [World.cell?_alloc_new]; exact zero_get N j hj
  refine ⟨fun i hi => ?_, fun i hi => ?_, fun i hi => ?_, fun i hi => ?_, fun i hi => ?_, fun i hi => ?_, (Blk.new w _ _).tag⟩
  · rw [hg _ (by omega), show i * 6 % 6 = 0 by omega]; rfl
  · rw [hg _ (by omega), show (i * 6 + 1) % 6 = 1 by omega]; rfl
  · rw [hg _ (by omega), show (i * 6 + 2) % 6 = 2 by omega]; rfl
  · rw [hg _ (by omega), show (i * 6 + 3) % 6 = 3 by omega]; rfl
  · rw [hg _ (by omega), show (i * 6 + 4) % 6 = 4 by omega]; rfl
  · rw [hg _ (by omega), show (i * 6 + 5) % 6 = 5 by omega]; rfl
/-- What a new device tells. -/
def NewD (N : Nat) (w : World) (e : Ending) (w' : World) : Prop := ∃ d b, e = .returned (.tuple #[.pointer (some ⟨d, 0, none⟩), .int .i64 0]) ∧ DevAt w' d b N (fun _ => zeroW) ∧ Nw w w' ∧ w.heap.size ≤ b ∧ w.heap.size ≤ d
set_option maxRecDepth 100000 in
set_option maxHeartbeats 2000000 in
theorem newd_yes (N : Nat) (h8 : 8 ≤ N) (hle : N ≤ 65536) (hb8 : N % 8 = 0) (w : World) : Calls Try.prog 29 #[.int .i64 (N : Int)] w (NewD N w) := by
  obtain ⟨i0, hi, hz0, hz1, hz2⟩ := info_parts8 info_word
  have hmk := run_make (P := Try.prog) w 115 110 i0 _ Try.underlying115 hi hz0 .i64 .i64 (N : Int) (N : Int) (by omega) (by omega) (by rw [hz2]; omega) (by omega)
  rw [hz1] at hmk
  have HM := Lib.hid (made_at w N)
  have hmk2 : (Instr.makeSlice 115 (.int .i64 (N : Int)) (.int .i64 (N : Int))).run Try.prog w = .ok (.slice (some ⟨w.heap.size, 0, none⟩) N N) (w.alloc (.cells (zeroCells N) 110)) := by simpa [zeroCells] using hmk
  clear hmk
  have HB8 := Lib.hid hb8
  have hb9 : (N : Int) % 8 = 0 := by omega
  clear hb8
  go_enter Try.func29, Try.ntmps29
  go_wp2_with fail
  go_ret2
  have hN : Nw (w.alloc (.cells (zeroCells N) 110)) ((w.alloc (.cells (zeroCells N) 110)).alloc (.cells #[.slice (some ⟨w.heap.size, 0, none⟩) N N] 117)) := Nw.refl.alloc _
  refine ⟨w.heap.size + 1, w.heap.size, rfl, ⟨?_, HM.out.up (t := w.heap.size + 1) (.of_nw hN) (by omega), h8, hle, HB8.out⟩, (Nw.refl.alloc _).alloc _, Nat.le_refl _, by omega⟩
  have := Blk.new (w.alloc (.cells (zeroCells N) 110)) #[.slice (some ⟨w.heap.size, 0, none⟩) N N] 117
  rwa [World.size_alloc] at this

end Go.Proofs.Ytkopfnldgnkkoaa
