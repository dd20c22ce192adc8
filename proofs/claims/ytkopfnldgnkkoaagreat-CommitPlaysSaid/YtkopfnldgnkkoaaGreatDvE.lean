import Derived.Test.YtkopfnldgnkkoaaGreatFr

/-
  DEVICES OF N WORDS: words in memory; at, Store, Load, Words.
-/
namespace Go.Proofs.YtkopfnldgnkkoaaGreat
open Go.RowKit Go.Shelf
set_option linter.unusedVariables false

/-- A word: what is sure, what is seen, its marks. -/
structure Wd where
  sure : Int
  seen : Int
  loose : Bool
  flushed : Bool
  again : Bool
  value : Int
/-- n words lie in block b. -/
structure WAt (W : World) (b n : Nat) (f : Nat → Wd) : Prop where
  c0 : ∀ i, i < n → W.cell? ⟨b, i * 6, none⟩ = some (.int .u64 (f i).sure)
  c1 : ∀ i, i < n → W.cell? ⟨b, i * 6 + 1, none⟩ = some (.int .u64 (f i).seen)
  c2 : ∀ i, i < n → W.cell? ⟨b, i * 6 + 2, none⟩ = some (.bool (f i).loose)
  c3 : ∀ i, i < n → W.cell? ⟨b, i * 6 + 3, none⟩ = some (.bool (f i).flushed)
  c4 : ∀ i, i < n → W.cell? ⟨b, i * 6 + 4, none⟩ = some (.bool (f i).again)
  c5 : ∀ i, i < n → W.cell? ⟨b, i * 6 + 5, none⟩ = some (.int .u64 (f i).value)
  ty : Tag W b 130
theorem WAt.up {W W' : World} {b n t : Nat} {f : Nat → Wd} (h : WAt W b n f) (k : Up t W W') (ht : b ≠ t) : WAt W' b n f := by
  exact ⟨fun i hi => k.cell (h.c0 i hi) ht, fun i hi => k.cell (h.c1 i hi) ht, fun i hi => k.cell (h.c2 i hi) ht, fun i hi => k.cell (h.c3 i hi) ht, fun i hi => k.cell (h.c4 i hi) ht, fun i hi => k.cell (h.c5 i hi) ht, h.ty.up k ht⟩
theorem WAt.fr {W : World} {b n : Nat} {f : Nat → Wd} (h : WAt W b n f) (j : Nat) : W.frozen? ⟨b, j, none⟩ = false := h.ty.frozen j
def upd (f : Nat → Wd) (k : Nat) (x : Wd) : Nat → Wd := fun i => if i = k then x else f i
theorem upd_upd (f : Nat → Wd) (k : Nat) (x y : Wd) : upd (upd f k x) k y = upd f k y := by
  funext i; unfold upd; split <;> rfl
theorem upd_same (f : Nat → Wd) (k : Nat) (x : Wd) : upd f k x k = x := by unfold upd; rw [if_pos rfl]
theorem WAt.set0 {W : World} {b n : Nat} {f : Nat → Wd} (h : WAt W b n f) (k : Nat) (hk : k < n) (v : Int) : WAt (W.setCell ⟨b, k * 6, none⟩ (.int .u64 v)) b n (upd f k { f k with sure := v }) := by
  refine ⟨fun i hi => cell_set W b _ _ _ _ (h.c0 i hi) _ ?_, fun i hi => cell_set W b _ _ _ _ (h.c1 i hi) _ ?_, fun i hi => cell_set W b _ _ _ _ (h.c2 i hi) _ ?_, fun i hi => cell_set W b _ _ _ _ (h.c3 i hi) _ ?_, fun i hi => cell_set W b _ _ _ _ (h.c4 i hi) _ ?_, fun i hi => cell_set W b _ _ _ _ (h.c5 i hi) _ ?_, h.ty.set _ _ _⟩
  all_goals
    by_cases e : i = k
    · subst e
      first
        | (rw [if_pos rfl]; simp [upd])
        | (rw [if_neg (by omega)]; simp [upd])
    · rw [if_neg (by omega)]; simp [upd, e]
theorem WAt.set1 {W : World} {b n : Nat} {f : Nat → Wd} (h : WAt W b n f) (k : Nat) (hk : k < n) (v : Int) : WAt (W.setCell ⟨b, k * 6 + 1, none⟩ (.int .u64 v)) b n (upd f k { f k with seen := v }) := by
  refine ⟨fun i hi => cell_set W b _ _ _ _ (h.c0 i hi) _ ?_, fun i hi => cell_set W b _ _ _ _ (h.c1 i hi) _ ?_, fun i hi => cell_set W b _ _ _ _ (h.c2 i hi) _ ?_, fun i hi => cell_set W b _ _ _ _ (h.c3 i hi) _ ?_, fun i hi => cell_set W b _ _ _ _ (h.c4 i hi) _ ?_, fun i hi => cell_set W b _ _ _ _ (h.c5 i hi) _ ?_, h.ty.set _ _ _⟩
  all_goals
    by_cases e : i = k
    · subst e
      first
        | (rw [if_pos rfl]; simp [upd])
        | (rw [if_neg (by omega)]; simp [upd])
    · rw [if_neg (by omega)]; simp [upd, e]
theorem WAt.set2 {W : World} {b n : Nat} {f : Nat → Wd} (h : WAt W b n f) (k : Nat) (hk : k < n) (v : Bool) : WAt (W.setCell ⟨b, k * 6 + 2, none⟩ (.bool v)) b n (upd f k { f k with loose := v }) := by
  refine ⟨fun i hi => cell_set W b _ _ _ _ (h.c0 i hi) _ ?_, fun i hi => cell_set W b _ _ _ _ (h.c1 i hi) _ ?_, fun i hi => cell_set W b _ _ _ _ (h.c2 i hi) _ ?_, fun i hi => cell_set W b _ _ _ _ (h.c3 i hi) _ ?_, fun i hi => cell_set W b _ _ _ _ (h.c4 i hi) _ ?_, fun i hi => cell_set W b _ _ _ _ (h.c5 i hi) _ ?_, h.ty.set _ _ _⟩
  all_goals
    by_cases e : i = k
    · subst e
      first
        | (rw [if_pos rfl]; simp [upd])
        | (rw [if_neg (by omega)]; simp [upd])
    · rw [if_neg (by omega)]; simp [upd, e]
theorem WAt.set3 {W : World} {b n : Nat} {f : Nat → Wd} (h : WAt W b n f) (k : Nat) (hk : k < n) (v : Bool) : WAt (W.setCell ⟨b, k * 6 + 3, none⟩ (.bool v)) b n (upd f k { f k with flushed := v }) := by
  refine ⟨fun i hi => cell_set W b _ _ _ _ (h.c0 i hi) _ ?_, fun i hi => cell_set W b _ _ _ _ (h.c1 i hi) _ ?_, fun i hi => cell_set W b _ _ _ _ (h.c2 i hi) _ ?_, fun i hi => cell_set W b _ _ _ _ (h.c3 i hi) _ ?_, fun i hi => cell_set W b _ _ _ _ (h.c4 i hi) _ ?_, fun i hi => cell_set W b _ _ _ _ (h.c5 i hi) _ ?_, h.ty.set _ _ _⟩
  all_goals
    by_cases e : i = k
    · subst e
      first
        | (rw [if_pos rfl]; simp [upd])
        | (rw [if_neg (by omega)]; simp [upd])
    · rw [if_neg (by omega)]; simp [upd, e]
theorem WAt.set4 {W : World} {b n : Nat} {f : Nat → Wd} (h : WAt W b n f) (k : Nat) (hk : k < n) (v : Bool) : WAt (W.setCell ⟨b, k * 6 + 4, none⟩ (.bool v)) b n (upd f k { f k with again := v }) := by
  refine ⟨fun i hi => cell_set W b _ _ _ _ (h.c0 i hi) _ ?_, fun i hi => cell_set W b _ _ _ _ (h.c1 i hi) _ ?_, fun i hi => cell_set W b _ _ _ _ (h.c2 i hi) _ ?_, fun i hi => cell_set W b _ _ _ _ (h.c3 i hi) _ ?_, fun i hi => cell_set W b _ _ _ _ (h.c4 i hi) _ ?_, fun i hi => cell_set W b _ _ _ _ (h.c5 i hi) _ ?_, h.ty.set _ _ _⟩
  all_goals
    by_cases e : i = k
    · subst e
      first
        | (rw [if_pos rfl]; simp [upd])
        | (rw [if_neg (by omega)]; simp [upd])
    · rw [if_neg (by omega)]; simp [upd, e]
theorem WAt.set5 {W : World} {b n : Nat} {f : Nat → Wd} (h : WAt W b n f) (k : Nat) (hk : k < n) (v : Int) : WAt (W.setCell ⟨b, k * 6 + 5, none⟩ (.int .u64 v)) b n (upd f k { f k with value := v }) := by
  refine ⟨fun i hi => cell_set W b _ _ _ _ (h.c0 i hi) _ ?_, fun i hi => cell_set W b _ _ _ _ (h.c1 i hi) _ ?_, fun i hi => cell_set W b _ _ _ _ (h.c2 i hi) _ ?_, fun i hi => cell_set W b _ _ _ _ (h.c3 i hi) _ ?_, fun i hi => cell_set W b _ _ _ _ (h.c4 i hi) _ ?_, fun i hi => cell_set W b _ _ _ _ (h.c5 i hi) _ ?_, h.ty.set _ _ _⟩
  all_goals
    by_cases e : i = k
    · subst e
      first
        | (rw [if_pos rfl]; simp [upd])
        | (rw [if_neg (by omega)]; simp [upd])
    · rw [if_neg (by omega)]; simp [upd, e]
/-- A device of N words. -/
structure DevAt (W : World) (d b N : Nat) (f : Nat → Wd) : Prop where
  k : Blk W d #[.slice (some ⟨b, 0, none⟩) N N] 142
  a : WAt W b N f
  pos : 8 ≤ N
  le : N ≤ 65536
  by8 : N % 8 = 0
theorem DevAt.s {W : World} {d b N : Nat} {f : Nat → Wd} (h : DevAt W d b N f) : W.cell? ⟨d, 0, none⟩ = some (.slice (some ⟨b, 0, none⟩) N N) := h.k.cell rfl
theorem DevAt.ne {W : World} {d b N : Nat} {f : Nat → Wd} (h : DevAt W d b N f) : d ≠ b := h.k.tag.ne h.a.ty (by decide)
theorem DevAt.dlt {W : World} {d b N : Nat} {f : Nat → Wd} (h : DevAt W d b N f) : d < W.heap.size := h.k.lt
theorem DevAt.blt {W : World} {d b N : Nat} {f : Nat → Wd} (h : DevAt W d b N f) : b < W.heap.size := h.a.ty.lt
theorem DevAt.up {W W' : World} {d b N t : Nat} {f : Nat → Wd} (h : DevAt W d b N f) (k : Up t W W') (hd : d ≠ t) (hb : b ≠ t) : DevAt W' d b N f :=
  ⟨h.k.up k hd, h.a.up k hb, h.pos, h.le, h.by8⟩
theorem DevAt.nw {W W' : World} {d b N : Nat} {f : Nat → Wd} (h : DevAt W d b N f) (k : Nw W W') : DevAt W' d b N f :=
  h.up (t := W.heap.size) (.of_nw k) (Nat.ne_of_lt h.dlt) (Nat.ne_of_lt h.blt)
theorem WAt.upo {O : Nat → Prop} {W W' : World} {b n : Nat} {f : Nat → Wd} (h : WAt W b n f) (k : UpO O W W') (hb : ¬ O b) : WAt W' b n f :=
  ⟨fun i hi => k.cell (h.c0 i hi) hb, fun i hi => k.cell (h.c1 i hi) hb, fun i hi => k.cell (h.c2 i hi) hb, fun i hi => k.cell (h.c3 i hi) hb, fun i hi => k.cell (h.c4 i hi) hb, fun i hi => k.cell (h.c5 i hi) hb, k.tag h.ty hb⟩
theorem DevAt.upo {O : Nat → Prop} {W W' : World} {d b N : Nat} {f : Nat → Wd} (h : DevAt W d b N f) (k : UpO O W W') (hd : ¬ O d) (hb : ¬ O b) : DevAt W' d b N f :=
  ⟨k.blk h.k hd, h.a.upo k hb, h.pos, h.le, h.by8⟩

set_option maxHeartbeats 1000000 in
theorem at_any (d b N : Nat) (f : Nat → Wd) (k : Nat) (hk : k < N) (w : World) (h : DevAt w d b N f) :
    Calls Tryz.prog 69 #[.pointer (some ⟨d, 0, none⟩), .int .i64 (k : Int)] w fun e w' => e = .returned (.tuple #[.pointer (some ⟨b, k * 6, none⟩), .int .i64 0]) ∧ w = w' := by
  have hs := h.s
  have hl := h.le
  clear h
  go_enter Tryz.func69, Tryz.ntmps69
  go_wp2_with fail
  go_ret2
  exact ⟨rfl, rfl⟩
set_option maxHeartbeats 1000000 in
theorem at_out (d b N : Nat) (f : Nat → Wd) (k : Int) (hk : k < 0 ∨ (N : Int) ≤ k) (w : World) (h : DevAt w d b N f) :
    Calls Tryz.prog 69 #[.pointer (some ⟨d, 0, none⟩), .int .i64 k] w fun e w' => e = .returned (.tuple #[.pointer none, .int .i64 8]) ∧ w = w' := by
  have hs := h.s
  have hl := h.le
  clear h
  by_cases h0 : k < 0
  · go_enter Tryz.func69, Tryz.ntmps69
    go_wp2_with fail
    go_ret2
    exact ⟨rfl, rfl⟩
  · have h1 : (N : Int) ≤ k := by omega
    go_enter Tryz.func69, Tryz.ntmps69
    go_wp2_with fail
    go_ret2
    exact ⟨rfl, rfl⟩
def storeW (x : Wd) (v : Int) : Wd := { x with seen := v, loose := true, again := true }
set_option maxHeartbeats 1000000 in
theorem store_any (d b N : Nat) (f : Nat → Wd) (k : Nat) (hk : k < N) (v : Int) (w : World) (h : DevAt w d b N f) :
    Calls Tryz.prog 16 #[.pointer (some ⟨d, 0, none⟩), .int .i64 (k : Int), .int .u64 v] w fun e w' => e = .returned (.int .i64 0) ∧ DevAt w' d b N (upd f k (storeW (f k) v)) ∧ Up b w w' := by
  have HC := Lib.hid (at_any d b N f k hk w h)
  have HD := Lib.hid h
  have c1 := h.a.c1 k hk
  have c2 := h.a.c2 k hk
  have c4 := h.a.c4 k hk
  have f1 := h.a.fr (k * 6 + 1)
  have f2 := h.a.fr (k * 6 + 2)
  have f4 := h.a.fr (k * 6 + 4)
  clear h
  go_enter Tryz.func16, Tryz.ntmps16
  go_wp2_with fail
  refine HC.out.mono ?_
  rintro e w' ⟨rfl, rfl⟩
  go_wp2_with fail
  go_ret
  have u := (((Up.refl b w).set (k * 6 + 1) (.int .u64 v)).set (k * 6 + 2) (.bool true)).set (k * 6 + 4) (.bool true)
  refine ⟨rfl, ⟨HD.out.k.up u HD.out.ne, ?_, HD.out.pos, HD.out.le, HD.out.by8⟩, u⟩
  have := ((HD.out.a.set1 k hk v).set2 k hk true).set4 k hk true
  simpa only [upd_upd, upd_same, storeW] using this

set_option maxHeartbeats 1000000 in
theorem store_out (d b N : Nat) (f : Nat → Wd) (k : Int) (hk : k < 0 ∨ (N : Int) ≤ k) (v : Int) (w : World) (h : DevAt w d b N f) :
    Calls Tryz.prog 16 #[.pointer (some ⟨d, 0, none⟩), .int .i64 k, .int .u64 v] w fun e w' => e = .returned (.int .i64 8) ∧ w = w' := by
  have HC := Lib.hid (at_out d b N f k hk w h)
  clear h hk
  go_enter Tryz.func16, Tryz.ntmps16
  go_wp2_with fail
  refine HC.out.mono ?_
  rintro e w' ⟨rfl, rfl⟩
  go_wp2_with fail
  go_ret
  exact ⟨rfl, rfl⟩
set_option maxHeartbeats 1000000 in
theorem load_any (d b N : Nat) (f : Nat → Wd) (k : Nat) (hk : k < N) (w : World) (h : DevAt w d b N f) :
    Calls Tryz.prog 45 #[.pointer (some ⟨d, 0, none⟩), .int .i64 (k : Int)] w fun e w' => e = .returned (.tuple #[.int .u64 (f k).seen, .int .i64 0]) ∧ w = w' := by
  have HC := Lib.hid (at_any d b N f k hk w h)
  have c1 := h.a.c1 k hk
  clear h
  go_enter Tryz.func45, Tryz.ntmps45
  go_wp2_with fail
  refine HC.out.mono ?_
  rintro e w' ⟨rfl, rfl⟩
  go_wp2_with fail
  go_ret2
  exact ⟨rfl, rfl⟩
set_option maxHeartbeats 1000000 in
theorem dwords_any (d b N : Nat) (f : Nat → Wd) (w : World) (h : DevAt w d b N f) :
    Calls Tryz.prog 88 #[.pointer (some ⟨d, 0, none⟩)] w fun e w' => e = .returned (.int .i64 (N : Int)) ∧ w = w' := by
  have hs := h.s
  have hl := h.le
  clear h
  go_enter Tryz.func88, Tryz.ntmps88
  go_wp2_with fail
  go_ret
  exact ⟨rfl, rfl⟩

end Go.Proofs.YtkopfnldgnkkoaaGreat

/-
  DEVICES: settle; what is done with a word.
-/
namespace Go.Proofs.YtkopfnldgnkkoaaGreat
open Go.RowKit Go.Shelf
set_option linter.unusedVariables false

def settleW (x : Wd) (v : Int) : Wd := { x with sure := v, loose := false, flushed := false, again := false, value := 0 }
def flushW (x : Wd) : Wd := { x with loose := true, flushed := true, again := false, value := x.seen }
def evictW (x : Wd) : Wd := settleW x x.seen
set_option maxHeartbeats 1000000 in
theorem settle_any (b n : Nat) (f : Nat → Wd) (k : Nat) (hk : k < n) (v : Int) (w : World) (h : WAt w b n f) :
    Calls Tryz.prog 72 #[.pointer (some ⟨b, k * 6, none⟩), .int .u64 v] w fun e w' => (∃ u, e = .returned u) ∧ WAt w' b n (upd f k (settleW (f k) v)) ∧ Up b w w' := by
  have c0 := h.c0 k hk
  have c2 := h.c2 k hk
  have c3 := h.c3 k hk
  have c4 := h.c4 k hk
  have c5 := h.c5 k hk
  have f0 := h.fr (k * 6)
  have f2 := h.fr (k * 6 + 2)
  have f3 := h.fr (k * 6 + 3)
  have f4 := h.fr (k * 6 + 4)
  have f5 := h.fr (k * 6 + 5)
  have HH := Lib.hid h
  clear h
  go_enter Tryz.func72, Tryz.ntmps72
  go_wp2_with fail
  go_end0
  have u := (((((Up.refl b w).set (k * 6) (.int .u64 v)).set (k * 6 + 2) (.bool false)).set (k * 6 + 2 + 1) (.bool false)).set (k * 6 + 2 + 2) (.bool false)).set (k * 6 + 2 + 3) (.int .u64 0)
  refine ⟨⟨_, rfl⟩, ?_, u⟩
  have := ((((HH.out.set0 k hk v).set2 k hk false).set3 k hk false).set4 k hk false).set5 k hk 0
  simpa only [upd_upd, upd_same, settleW] using this
set_option maxHeartbeats 1000000 in
theorem flush1_any (b n : Nat) (f : Nat → Wd) (k : Nat) (hk : k < n) (w : World) (h : WAt w b n f) :
    Calls Tryz.prog 126 #[.pointer (some ⟨b, k * 6, none⟩)] w fun e w' => (∃ u, e = .returned u) ∧ WAt w' b n (upd f k (flushW (f k))) ∧ Up b w w' := by
  have c1 := h.c1 k hk
  have c2 := h.c2 k hk
  have c3 := h.c3 k hk
  have c4 := h.c4 k hk
  have c5 := h.c5 k hk
  have f2 := h.fr (k * 6 + 2)
  have f3 := h.fr (k * 6 + 3)
  have f4 := h.fr (k * 6 + 4)
  have f5 := h.fr (k * 6 + 5)
  have HH := Lib.hid h
  clear h
  go_enter Tryz.func126, Tryz.ntmps126
  go_wp2_with fail
  go_end0
  have u := ((((Up.refl b w).set (k * 6 + 2) (.bool true)).set (k * 6 + 2 + 1) (.bool true)).set (k * 6 + 2 + 2) (.bool false)).set (k * 6 + 2 + 3) (.int .u64 (f k).seen)
  refine ⟨⟨_, rfl⟩, ?_, u⟩
  have := (((HH.out.set2 k hk true).set3 k hk true).set4 k hk false).set5 k hk (f k).seen
  simpa only [upd_upd, upd_same, flushW] using this
set_option maxHeartbeats 1000000 in
theorem evict1_any (b n : Nat) (f : Nat → Wd) (k : Nat) (hk : k < n) (w : World) (h : WAt w b n f) :
    Calls Tryz.prog 71 #[.pointer (some ⟨b, k * 6, none⟩)] w fun e w' => (∃ u, e = .returned u) ∧ WAt w' b n (upd f k (evictW (f k))) ∧ Up b w w' := by
  have c1 := h.c1 k hk
  have HC := Lib.hid (settle_any b n f k hk (f k).seen w h)
  clear h
  go_enter Tryz.func71, Tryz.ntmps71
  go_wp2_with fail
  refine HC.out.mono ?_
  rintro e w' ⟨⟨u, rfl⟩, h1, h2⟩
  go_wp2_with fail
  go_end0
  exact ⟨⟨_, rfl⟩, h1, h2⟩

def zeroW : Wd := ⟨0, 0, false, false, false, 0⟩
theorem info_word : (Tryz.prog.info? 130).map (fun i => (i.zero, i.size, i.bytes)) = some (some (.agg #[.int .u64 0, .int .u64 0, .bool false, .bool false, .bool false, .int .u64 0]), 6, 32) := by kernel_rfl
def zeroCells (N : Nat) : Array Value := madeCells (Value.agg #[.int .u64 0, .int .u64 0, .bool false, .bool false, .bool false, .int .u64 0]).cells (N * 6)
theorem zero_get (N j : Nat) (hj : j < N * 6) : (zeroCells N)[j]? = (#[Value.int .u64 0, .int .u64 0, .bool false, .bool false, .bool false, .int .u64 0])[j % 6]? := by
  unfold zeroCells madeCells
  simp [Value.cells, hj]
  rw [List.getElem?_eq_getElem (by simp only [List.length_cons, List.length_nil]; omega)]
  rfl
theorem made_at (w : World) (N : Nat) : WAt (w.alloc (.cells (zeroCells N) 130)) w.heap.size N (fun _ => zeroW) := by
  have hg : ∀ j, j < N * 6 → (w.alloc (.cells (zeroCells N) 130)).cell? ⟨w.heap.size, j, none⟩ = (#[Value.int .u64 0, .int .u64 0, .bool false, .bool false, .bool false, .int .u64 0])[j % 6]? := fun j hj => by
    rw [World.cell?_alloc_new]; exact zero_get N j hj
  refine ⟨fun i hi => ?_, fun i hi => ?_, fun i hi => ?_, fun i hi => ?_, fun i hi => ?_, fun i hi => ?_, (Blk.new w _ _).tag⟩
  · rw [hg _ (by omega), show i * 6 % 6 = 0 by omega]; rfl
  · rw [hg _ (by omega), show (i * 6 + 1) % 6 = 1 by omega]; rfl
  · rw [hg _ (by omega), show (i * 6 + 2) % 6 = 2 by omega]; rfl
  · rw [hg _ (by omega), show (i * 6 + 3) % 6 = 3 by omega]; rfl
  · rw [hg _ (by omega), show (i * 6 + 4) % 6 = 4 by omega]; rfl
  · rw [hg _ (by omega), show (i * 6 + 5) % 6 = 5 by omega]; rfl
/-- What a new device tells. -/
def NewD (N : Nat) (w : World) (e : Ending) (w' : World) : Prop := ∃ d b, e = .returned (.tuple #[.pointer (some ⟨d, 0, none⟩), .int .i64 0]) ∧ DevAt w' d b N (fun _ => zeroW) ∧ Nw w w' ∧ w.heap.size ≤ b ∧ w.heap.size ≤ d
set_option maxRecDepth 100000 in
set_option maxHeartbeats 2000000 in
theorem newd_yes (N : Nat) (h8 : 8 ≤ N) (hle : N ≤ 65536) (hb8 : N % 8 = 0) (w : World) : Calls Tryz.prog 42 #[.int .i64 (N : Int)] w (NewD N w) := by
  obtain ⟨i0, hi, hz0, hz1, hz2⟩ := info_parts8 info_word
  have hmk := run_make (P := Tryz.prog) w 140 130 i0 _ Tryz.underlying140 hi hz0 .i64 .i64 (N : Int) (N : Int) (by omega) (by omega) (by rw [hz2]; omega) (by omega)
  rw [hz1] at hmk
  have HM := Lib.hid (made_at w N)
  have hmk2 : (Instr.makeSlice 140 (.int .i64 (N : Int)) (.int .i64 (N : Int))).run Tryz.prog w = .ok (.slice (some ⟨w.heap.size, 0, none⟩) N N) (w.alloc (.cells (zeroCells N) 130)) := by simpa [zeroCells] using hmk
  clear hmk
  have HB8 := Lib.hid hb8
  have hb9 : (N : Int) % 8 = 0 := by omega
  clear hb8
  go_enter Tryz.func42, Tryz.ntmps42
  go_wp2_with fail
  go_ret2
  have hN : Nw (w.alloc (.cells (zeroCells N) 130)) ((w.alloc (.cells (zeroCells N) 130)).alloc (.cells #[.slice (some ⟨w.heap.size, 0, none⟩) N N] 142)) := Nw.refl.alloc _
  refine ⟨w.heap.size + 1, w.heap.size, rfl, ⟨?_, HM.out.up (t := w.heap.size + 1) (.of_nw hN) (by omega), h8, hle, HB8.out⟩, (Nw.refl.alloc _).alloc _, Nat.le_refl _, by omega⟩
  have := Blk.new (w.alloc (.cells (zeroCells N) 130)) #[.slice (some ⟨w.heap.size, 0, none⟩) N N] 142
  rwa [World.size_alloc] at this

end Go.Proofs.YtkopfnldgnkkoaaGreat

/-
  DEVICES: the words that are loose, gone through.
-/
namespace Go.Proofs.YtkopfnldgnkkoaaGreat
open Go.RowKit Go.Shelf
set_option linter.unusedVariables false
attribute [local go_sem] Oper.semAt_some

/-- Of the first k words those that were loose. -/
def looseL (m : Nat) (fl : Nat → Bool) (k : Nat) : List (Fin m) := ((List.finRange m).take k).filter fun x => fl x.1
theorem looseL_zero (m : Nat) (fl : Nat → Bool) : looseL m fl 0 = [] := by simp [looseL]
theorem looseL_succ {m : Nat} {fl : Nat → Bool} {k : Nat} (h : k < m) : looseL m fl (k + 1) = if fl k then looseL m fl k ++ [⟨k, h⟩] else looseL m fl k := by
  unfold looseL
  rw [List.take_succ_eq_append_getElem (by simpa using h), List.filter_append]
  simp only [List.getElem_finRange]
  by_cases hf : fl k = true
  · rw [if_pos hf]; simp [hf]
  · rw [if_neg hf]; simp [hf]
theorem looseL_lt {m : Nat} {fl : Nat → Bool} {k : Nat} : ∀ x ∈ looseL m fl k, x.1 < k := by
  intro x hx
  unfold looseL at hx
  have := (List.mem_filter.1 hx).1
  obtain ⟨i, hi, he⟩ := List.getElem_of_mem this
  rw [List.length_take] at hi
  rw [List.getElem_take, List.getElem_finRange] at he
  subst he
  simp; omega
theorem looseL_length {m : Nat} {fl : Nat → Bool} {k : Nat} : (looseL m fl k).length ≤ k := by
  unfold looseL
  refine Nat.le_trans (List.length_filter_le _ _) ?_
  rw [List.length_take]; omega
theorem looseL_mem {m : Nat} {fl : Nat → Bool} (x : Fin m) : x ∈ looseL m fl m ↔ fl x.1 = true := by
  unfold looseL
  rw [List.take_of_length_le (by simp)]
  simp
theorem looseL_nodup (m : Nat) (fl : Nat → Bool) (k : Nat) : (looseL m fl k).Nodup := by
  unfold looseL
  exact ((List.nodup_finRange m).sublist (List.take_sublist _ _)).sublist List.filter_sublist
def wE (b o m : Nat) (x : Fin m) : Array Value := #[.pointer (some ⟨b, o * 6 + x.1 * 6, none⟩)]

set_option maxRecDepth 100000 in
set_option maxHeartbeats 2000000 in
theorem loose_stops (F : Fence) (n : Nat) (h7 : F.fn 102) (hro : F.round = none) (hn : 1 ≤ n) (B b o m cap : Nat) (hm : m ≤ 65536) (fl : Nat → Bool) (I : List (Fin m) → World → Prop)
    (hIb : ∀ pre W, I pre W → W.cell? ⟨B, 0, none⟩ = some (.slice (some ⟨b, o * 6, none⟩) m cap))
    (hIf : ∀ pre W (k : Nat), k < m → I pre W → (∀ x ∈ pre, x.1 < k) → W.cell? ⟨b, o * 6 + k * 6 + 2, none⟩ = some (.bool (fl k))) (w : World) :
    SeqJ F n Tryz.prog 102 #[.pointer (some ⟨B, 0, none⟩)] (wE b o m) I (fun xs => xs = looseL m fl m) (fun _ => True) m w := by
  intro l J Jx W hW hJ hJx hJI hY h0
  refine callsIn_of_wp Tryz.func102 rfl h7 ?_ hro
  simp only [Tryz.ntmps102, List.size_toArray, List.length_cons, List.length_nil, Nat.reduceAdd, Nat.reduceSub, Array.replicate_succ, Array.replicate_zero, List.push_toArray, List.append_toArray, List.nil_append, List.cons_append]
  have hb0 := hIb _ _ (hJI _ _ h0)
  gi_wp2
  gi_loopw [6] (fun i wr => ∃ k : Nat, k ≤ m ∧ i = .int .i64 k ∧ J (looseL m fl k) wr) (fun i _ => m - (intOf i).toNat)
  case atStart => exact ⟨0, Nat.zero_le _, rfl, by rw [looseL_zero]; exact h0⟩
  case round =>
    clear hb0
    obtain ⟨k, hk, rfl, hJs⟩ := hrel
    have hbk := hIb _ _ (hJI _ _ hJs)
    by_cases hlt : k < m
    · have hfk := hIf _ _ k hlt (hJI _ _ hJs) looseL_lt
      have HL := Lib.hid (looseL_succ (fl := fl) hlt)
      cases hf : fl k
      · rw [hf] at hfk
        have HF := Lib.hid hf
        have HJ := Lib.hid hJs
        clear hf hJs
        gi_wp2
        refine ⟨fun _ h => (by cases h), ?_⟩
        gi_wp2
        go_roundw
        case rel => exact ⟨k + 1, by omega, by go_num, by rw [HL.out, if_neg (by rw [HF.out]; simp)]; exact HJ.out⟩
        case measure => simp [intOf]; omega
      · rw [hf] at hfk
        have HF := Lib.hid hf
        obtain ⟨fn, tmps, assign, body, hy, hR⟩ := hY _ ⟨k, hlt⟩ wr hJs (by have := looseL_length (m := m) (fl := fl) (k := k); omega)
        unfold wE at hy
        dsimp only at hy
        have HR := Lib.hid hR
        clear hf hJs hR
        gi_wp2
        refine HR.out.mono ?_
        rintro e W3 (⟨rfl, hJ3⟩ | ⟨rfl, hJx3⟩)
        · have HJ := Lib.hid hJ3
          clear hJ3
          gi_wp2
          go_roundw
          case rel => exact ⟨k + 1, by omega, by go_num, by rw [HL.out, if_pos HF.out]; exact HJ.out⟩
          case measure => simp [intOf]; omega
        · gi_wp2
          refine bodyPost_ret (results_none rfl _ _ _) rfl ?_
          exact ⟨⟨_, rfl⟩, .inr ⟨_, trivial, hJx3⟩⟩
    · obtain rfl : k = m := by omega
      have HJ := Lib.hid hJs
      clear hJs
      gi_wp2
      go_end0
      exact ⟨⟨_, rfl⟩, .inl ⟨_, rfl, HJ.out⟩⟩
set_option maxHeartbeats 1000000 in
theorem loose_in (F : Fence) (n : Nat) (h5 : F.fn 74) (hro : F.round = none) (a : Option Addr) (len cap : Nat) (w : World) :
    CallsIn F n Tryz.prog 74 #[.slice a len cap] w fun e w' => e = .returned (.func (.func 102) #[] #[.pointer (some ⟨w.heap.size, 0, none⟩)]) ∧ w' = w.alloc (.cells #[.slice a len cap] 140) := by
  refine callsIn_of_wp Tryz.func74 rfl h5 ?_ hro
  simp only [Tryz.ntmps74, List.size_toArray, List.length_cons, List.length_nil, Nat.reduceAdd, Nat.reduceSub, Array.replicate_succ, Array.replicate_zero, List.push_toArray, List.append_toArray, List.nil_append, List.cons_append]
  gi_wp2
  go_ret
  exact ⟨rfl, rfl⟩

end Go.Proofs.YtkopfnldgnkkoaaGreat

/-
  DEVICES OF N WORDS: what is done with the loose words of a line; Flush, Evict.
-/
namespace Go.Proofs.YtkopfnldgnkkoaaGreat
open Go.RowKit Go.Shelf
set_option linter.unusedVariables false
attribute [local go_sem] Oper.semAt_some

/-- Words, gone through in turn. -/
def gone (op : Nat → Wd → Wd) (o : Nat) {m : Nat} : Nat → List (Fin m) → (Nat → Wd) → Nat → Wd
  | _, [], f => f
  | i, x :: r, f => gone op o (i + 1) r (upd f (o + x.1) (op i (f (o + x.1))))
theorem gone_snoc (op : Nat → Wd → Wd) (o : Nat) {m : Nat} (pre : List (Fin m)) (x : Fin m) : ∀ (i : Nat) (f : Nat → Wd), gone op o i (pre ++ [x]) f = upd (gone op o i pre f) (o + x.1) (op (i + pre.length) (gone op o i pre f (o + x.1))) := by
  induction pre with
  | nil => intro i f; rfl
  | cons y r ih => intro i f; simp only [List.cons_append, gone, List.length_cons]; rw [ih, show i + 1 + r.length = i + (r.length + 1) by omega]
theorem gone_other (op : Nat → Wd → Wd) (o : Nat) {m : Nat} (pre : List (Fin m)) (k : Nat) (h : ∀ x ∈ pre, o + x.1 ≠ k) : ∀ (i : Nat) (f : Nat → Wd), gone op o i pre f k = f k := by
  induction pre with
  | nil => intro i f; rfl
  | cons y r ih =>
    intro i f
    simp only [gone]
    rw [ih (fun x hx => h x (List.mem_cons_of_mem _ hx)), upd, if_neg (fun e => h y List.mem_cons_self e.symm)]
/-- What is kept while words are gone through. -/
def GoneI (W0 : World) (d b N : Nat) (op : Nat → Wd → Wd) (o : Nat) (f : Nat → Wd) {m : Nat} (pre : List (Fin m)) (W : World) : Prop :=
  DevAt W d b N (gone op o 0 pre f) ∧ Up b W0 W
theorem goneI_own (W0 : World) (d b N : Nat) (op : Nat → Wd → Wd) (o : Nat) (f : Nat → Wd) {m : Nat} (hd : d < W0.heap.size) (hb : b < W0.heap.size) : OwnFrom W0.heap.size (GoneI W0 d b N op o f (m := m)) := by
  rintro pre W W' row ⟨h1, h2⟩ hg hr
  have hf := row_far h2.size hr
  refine ⟨h1.up (up_of_grown hg) (by omega) (by omega), ?_⟩
  exact ⟨hg.os.trans h2.os, hg.tape.trans h2.tape, hg.output.trans h2.output, Nat.le_trans h2.size hg.size, fun k hk hn => ((up_of_grown hg).block k (by have := h2.size; omega) (by omega)).trans (h2.block k hk hn)⟩
theorem GoneI.next {W0 W W' : World} {d b N : Nat} {op : Nat → Wd → Wd} {o : Nat} {f : Nat → Wd} {m : Nat} {pre : List (Fin m)} (h : GoneI W0 d b N op o f pre W) (x : Fin m) (hx : WAt W' b N (upd (gone op o 0 pre f) (o + x.1) (op pre.length (gone op o 0 pre f (o + x.1))))) (hu : Up b W W') : GoneI W0 d b N op o f (pre ++ [x]) W' := by
  refine ⟨?_, h.2.trans hu⟩
  rw [gone_snoc, Nat.zero_add]
  exact ⟨h.1.k.up hu h.1.ne, hx, h.1.pos, h.1.le, h.1.by8⟩
/-- A device from one moment to the next. -/
def DevG (w : World) (d b N : Nat) (g : Nat → Wd) (e : Ending) (w' : World) : Prop := e = .returned (.int .i64 0) ∧ DevAt w' d b N g ∧ Up b w w'
theorem WAt.congr {W : World} {b n : Nat} {f g : Nat → Wd} (h : WAt W b n f) (e : ∀ i, i < n → f i = g i) : WAt W b n g :=
  ⟨fun i hi => by rw [← e i hi]; exact h.c0 i hi, fun i hi => by rw [← e i hi]; exact h.c1 i hi, fun i hi => by rw [← e i hi]; exact h.c2 i hi, fun i hi => by rw [← e i hi]; exact h.c3 i hi, fun i hi => by rw [← e i hi]; exact h.c4 i hi, fun i hi => by rw [← e i hi]; exact h.c5 i hi, h.ty⟩
theorem DevAt.congr {W : World} {d b N : Nat} {f g : Nat → Wd} (h : DevAt W d b N f) (e : ∀ i, i < N → f i = g i) : DevAt W d b N g := ⟨h.k, h.a.congr e, h.pos, h.le, h.by8⟩
theorem DevG.congr {w w' : World} {d b N : Nat} {f g : Nat → Wd} {e : Ending} (h : DevG w d b N f e w') (k : ∀ i, i < N → f i = g i) : DevG w d b N g e w' := ⟨h.1, h.2.1.congr k, h.2.2⟩
theorem gone_const (op : Nat → Wd → Wd) (op' : Wd → Wd) (o : Nat) {m : Nat} (pre : List (Fin m)) (hnd : pre.Nodup) : ∀ (i : Nat) (f : Nat → Wd), (∀ j, j < i + pre.length → ∀ x, op j x = op' x) → ∀ k, ((∃ x ∈ pre, o + x.1 = k) → gone op o i pre f k = op' (f k)) ∧ ((¬ ∃ x ∈ pre, o + x.1 = k) → gone op o i pre f k = f k) := by
  induction pre with
  | nil => intro i f _ k; exact ⟨fun ⟨x, hx, _⟩ => absurd hx (by simp), fun _ => rfl⟩
  | cons y r ih =>
    intro i f hop k
    obtain ⟨hy, hr⟩ := List.nodup_cons.1 hnd
    have key := ih hr (i + 1) (upd f (o + y.1) (op i (f (o + y.1)))) (fun j hj => hop j (by simp only [List.length_cons]; omega)) k
    simp only [gone]
    by_cases hk : o + y.1 = k
    · subst hk
      have hn : ¬ ∃ x ∈ r, o + x.1 = o + y.1 := fun ⟨x, hx, e⟩ => hy (by rw [show y = x from Fin.ext (by omega)]; exact hx)
      refine ⟨fun _ => ?_, fun h => absurd ⟨y, List.mem_cons_self, rfl⟩ h⟩
      rw [key.2 hn, upd_same]
      exact hop i (by simp only [List.length_cons]; omega) _
    · have hu : upd f (o + y.1) (op i (f (o + y.1))) k = f k := by unfold upd; rw [if_neg (fun e => hk e.symm)]
      rw [hu] at key
      refine ⟨fun ⟨x, hx, e⟩ => ?_, fun h => key.2 (fun ⟨x, hx, e⟩ => h ⟨x, List.mem_cons_of_mem _ hx, e⟩)⟩
      rcases List.mem_cons.1 hx with rfl | hx
      · exact absurd e hk
      · exact key.1 ⟨x, hx, e⟩
theorem gone_loose (op : Nat → Wd → Wd) (op' : Wd → Wd) (o m : Nat) (f : Nat → Wd) (hop : ∀ j, j < m → ∀ x, op j x = op' x) (k : Nat) :
    gone op o 0 (looseL m (fun i => (f (o + i)).loose) m) f k = if o ≤ k ∧ k < o + m ∧ (f k).loose = true then op' (f k) else f k := by
  have key := gone_const op op' o (looseL m (fun i => (f (o + i)).loose) m) (looseL_nodup _ _ _) 0 f (fun j hj => hop j (by have := looseL_length (m := m) (fl := fun i => (f (o + i)).loose) (k := m); omega)) k
  by_cases h : o ≤ k ∧ k < o + m ∧ (f k).loose = true
  · rw [if_pos h]
    obtain ⟨h1, h2, h3⟩ := h
    exact key.1 ⟨⟨k - o, by omega⟩, (looseL_mem (fl := fun i => (f (o + i)).loose) _).2 (by show (f (o + (k - o))).loose = true; rw [show o + (k - o) = k by omega]; exact h3), by show o + (k - o) = k; omega⟩
  · rw [if_neg h]
    refine key.2 (fun ⟨x, hx, e⟩ => h ?_)
    have := (looseL_mem (fl := fun i => (f (o + i)).loose) x).1 hx
    subst e
    exact ⟨by omega, by have := x.2; omega, this⟩
/-- What is done with a line's loose words. -/
def lineU (i : Nat) (op : Wd → Wd) (f : Nat → Wd) : Nat → Wd := fun k => if k / 8 = i ∧ (f k).loose = true then op (f k) else f k
def flushU (i : Nat) (f : Nat → Wd) : Nat → Wd := lineU i flushW f
def evictU (i : Nat) (f : Nat → Wd) : Nat → Wd := lineU i evictW f
theorem gone_line (i : Nat) (op : Wd → Wd) (f : Nat → Wd) (k : Nat) : gone (fun _ => op) (i * 8) 0 (looseL 8 (fun k => (f (i * 8 + k)).loose) 8) f k = lineU i op f k := by
  rw [gone_loose (fun _ => op) op (i * 8) 8 f (fun _ _ _ => rfl) k]
  unfold lineU
  by_cases h : (f k).loose = true
  · by_cases h2 : k / 8 = i
    · rw [if_pos ⟨by omega, by omega, h⟩, if_pos ⟨h2, h⟩]
    · rw [if_neg (fun hh => h2 (by omega)), if_neg (fun hh => h2 hh.1)]
  · rw [if_neg (fun hh => h hh.2.2), if_neg (fun hh => h hh.2)]

set_option maxRecDepth 100000 in
set_option maxHeartbeats 4000000 in
theorem line_flush (d b N : Nat) (f : Nat → Wd) (i : Nat) (hi : i * 8 < N) (w : World) (h : DevAt w d b N f) :
    Calls Tryz.prog 70 #[.pointer (some ⟨d, 0, none⟩), .int .i64 (i : Int), .func (.func 126) #[] #[]] w (DevG w d b N (gone (fun _ => flushW) (i * 8) 0 (looseL 8 (fun k => (f (i * 8 + k)).loose) 8) f)) := by
  have hs := h.s
  have hN8 := h.by8
  have hle := h.le
  have HD := Lib.hid h
  have hdl := h.dlt
  have hbl := h.blt
  have hi1 : (i + 1) * 8 ≤ N := by omega
  have hi2 : i < N / 8 := by omega
  have hi3 : ((i + 1) * 8) - i * 8 = 8 := by omega
  clear h
  refine (callsIn_wide (n := 9)).1 ?_
  refine callsIn_of_wp_marks Tryz.func70 rfl trivial ?_ rfl
  simp only [Tryz.ntmps70, List.size_toArray, List.length_cons, List.length_nil, Nat.reduceAdd, Nat.reduceSub, Array.replicate_succ, Array.replicate_zero, List.push_toArray, List.append_toArray, List.nil_append, List.cons_append]
  gi_wp2_with (refine ⟨trivial, ?_⟩; gi_at_call 74; refine (loose_in Fence.wide _ trivial rfl _ _ _ _).mono ?_; rintro e w' ⟨rfl, rfl⟩)
  have hB1 : ((w.alloc (.cells #[.func (.func 126) #[] #[]] 135)).alloc (.cells #[.slice (some ⟨b, i * 8 * 6, none⟩) 8 (N - i * 8)] 140)).cell? ⟨w.heap.size + 1, 0, none⟩ = some (.slice (some ⟨b, i * 8 * 6, none⟩) 8 (N - i * 8)) := by
    have := World.cell?_alloc_new (w.alloc (.cells #[.func (.func 126) #[] #[]] 135)) #[.slice (some ⟨b, i * 8 * 6, none⟩) 8 (N - i * 8)] 140 0
    rw [World.size_alloc] at this
    rw [this]; simp
  have hB0 : ((w.alloc (.cells #[.func (.func 126) #[] #[]] 135)).alloc (.cells #[.slice (some ⟨b, i * 8 * 6, none⟩) 8 (N - i * 8)] 140)).cell? ⟨w.heap.size, 0, none⟩ = some (.func (.func 126) #[] #[]) := by
    have := World.cell?_alloc_new w #[.func (.func 126) #[] #[]] 135 0
    refine ((Nw.refl.alloc _ : Nw (w.alloc (.cells #[.func (.func 126) #[] #[]] 135)) _).b.cell (p := ⟨w.heap.size, 0, none⟩) (by simp)).trans ?_
    rw [this]; rfl
  have hN0 : Nw w ((w.alloc (.cells #[.func (.func 126) #[] #[]] 135)).alloc (.cells #[.slice (some ⟨b, i * 8 * 6, none⟩) 8 (N - i * 8)] 140)) := (Nw.refl.alloc _).alloc _
  have hs0 : ((w.alloc (.cells #[.func (.func 126) #[] #[]] 135)).alloc (.cells #[.slice (some ⟨b, i * 8 * 6, none⟩) 8 (N - i * 8)] 140)).heap.size = w.heap.size + 2 := by simp
  have hD0 := HD.out.nw hN0
  generalize hW0 : (w.alloc (.cells #[.func (.func 126) #[] #[]] 135)).alloc (.cells #[.slice (some ⟨b, i * 8 * 6, none⟩) 8 (N - i * 8)] 140) = W0 at *
  refine wpIn_range_K rfl (by omega) (gf := 102) (lb := #[.pointer (some ⟨w.heap.size + 1, 0, none⟩)]) rfl trivial (enters_of Tryz.func102 (by kernel_rfl) rfl)
    (fun _ => rfl) (GoneI W0 d b N (fun _ => flushW) (i * 8) f) (fun _ _ _ => False)
    (loose_stops Fence.wide _ trivial rfl (by omega) (w.heap.size + 1) b (i * 8) 8 (N - i * 8) (by omega) (fun k => (f (i * 8 + k)).loose) (GoneI W0 d b N (fun _ => flushW) (i * 8) f)
      (fun pre W hi => hi.2.cell hB1 (by dsimp only; omega))
      (fun pre W k hk hi hp => by
        have := hi.1.a.c2 (i * 8 + k) (by omega)
        rw [gone_other _ _ _ _ (fun x hx => by have := hp x hx; omega)] at this
        rw [← this]; congr 2; omega) W0)
    (goneI_own W0 d b N _ _ f (by omega) (by omega)) (fun _ _ _ _ _ hs _ _ => hs) ⟨hD0, .refl _ _⟩
    (fun x t => t.setIfInBounds 7 (.pointer (some ⟨b, i * 8 * 6 + x.1 * 6, none⟩)))
    ?assign ?body ?done ?stop
  case assign =>
    rintro l pre x W K hi hK
    obtain ⟨xx, hxx⟩ : ∃ xx, i * 8 * 6 + x.1 * 6 = xx := ⟨_, rfl⟩
    unfold wE at hK ⊢
    rw [hxx] at hK ⊢
    simp [Array.zip, go_sem] at hK ⊢
    gi_wp2
    exact hK
  case body =>
    rintro l pre x W hl _ hi _
    have hc := hi.2.cell hB0 (by dsimp only; omega)
    have HI := Lib.hid hi
    have HC := Lib.hid (flush1_any b N _ (i * 8 + x.1) (by have := x.2; omega) W hi.1.a)
    clear hi
    unfold wE
    obtain ⟨xx, hxx⟩ : ∃ xx, i * 8 * 6 + x.1 * 6 = xx := ⟨_, rfl⟩
    rw [show (i * 8 + x.1) * 6 = i * 8 * 6 + x.1 * 6 by omega, hxx] at HC
    rw [hxx]
    simp [Array.zip, go_sem]
    gi_wp2_with (refine ⟨trivial, ?_⟩; gi_at_call 126; refine (CallsIn.inRound l (callsIn_wide.2 HC.out)).mono ?_; rintro e w' ⟨⟨u, rfl⟩, h1, h2⟩)
    exact ⟨h2.keepsFrom (by omega), HI.out.next x h1 h2⟩
  case done =>
    rintro D xs W hD rfl hi hK
    have HI := Lib.hid hi
    clear hi
    gi_wp2
    refine ⟨by simp, .inl ⟨_, _, rfl, run_takeDeferred hK, ?_⟩⟩
    have hu : Up D W (W.putObj D (.deferred none)) := ⟨rfl, rfl, rfl, by simp [World.putObj], fun k hk hn => World.putObj_heap_other hn⟩
    exact ⟨.int .i64 0, by simp [results, Tryz.f70, go_sem], rfl, HI.out.1.up hu (by omega) (by omega), HI.out.2.putDone hN0 hD⟩
  case stop =>
    rintro D c pre W _ _ h _
    exact h.elim
set_option maxHeartbeats 1000000 in
theorem line_out_flush (d b N : Nat) (f : Nat → Wd) (i : Int) (hi : i < 0 ∨ (N : Int) ≤ i * 8) (w : World) (h : DevAt w d b N f) :
    Calls Tryz.prog 70 #[.pointer (some ⟨d, 0, none⟩), .int .i64 i, .func (.func 126) #[] #[]] w fun e w' => e = .returned (.int .i64 8) ∧ Nw w w' := by
  have hle := h.le
  have h8 := h.by8
  have hN0 : Nw w (w.alloc (.cells #[.func (.func 126) #[] #[]] 135)) := Nw.refl.alloc _
  have hs := (h.nw hN0).s
  by_cases h0 : i < 0
  · clear h
    go_enter Tryz.func70, Tryz.ntmps70
    go_wp2_with fail
    go_ret
    exact ⟨rfl, hN0⟩
  · have hi1 : (N : Int) / 8 ≤ i := by omega
    clear h
    go_enter Tryz.func70, Tryz.ntmps70
    go_wp2_with fail
    go_ret
    exact ⟨rfl, hN0⟩
set_option maxHeartbeats 1000000 in
theorem flush_any (d b N : Nat) (f : Nat → Wd) (i : Nat) (hi : i * 8 < N) (w : World) (h : DevAt w d b N f) :
    Calls Tryz.prog 116 #[.pointer (some ⟨d, 0, none⟩), .int .i64 (i : Int)] w (DevG w d b N (flushU i f)) := by
  have HC := Lib.hid (line_flush d b N f i hi w h)
  clear h hi
  go_enter Tryz.func116, Tryz.ntmps116
  go_wp2_with fail
  refine HC.out.mono ?_
  rintro e w' ⟨rfl, h1, h2⟩
  go_wp2_with fail
  go_ret
  exact ⟨rfl, h1.congr (fun k _ => gone_line i _ f k), h2⟩
set_option maxHeartbeats 1000000 in
theorem flush_out (d b N : Nat) (f : Nat → Wd) (i : Int) (hi : i < 0 ∨ (N : Int) ≤ i * 8) (w : World) (h : DevAt w d b N f) :
    Calls Tryz.prog 116 #[.pointer (some ⟨d, 0, none⟩), .int .i64 i] w fun e w' => e = .returned (.int .i64 8) ∧ Nw w w' := by
  have HC := Lib.hid (line_out_flush d b N f i hi w h)
  clear h hi
  go_enter Tryz.func116, Tryz.ntmps116
  go_wp2_with fail
  refine HC.out.mono ?_
  rintro e w' ⟨rfl, h1⟩
  go_wp2_with fail
  go_ret
  exact ⟨rfl, h1⟩

set_option maxRecDepth 100000 in
set_option maxHeartbeats 4000000 in
theorem line_evict (d b N : Nat) (f : Nat → Wd) (i : Nat) (hi : i * 8 < N) (w : World) (h : DevAt w d b N f) :
    Calls Tryz.prog 70 #[.pointer (some ⟨d, 0, none⟩), .int .i64 (i : Int), .func (.func 71) #[] #[]] w (DevG w d b N (gone (fun _ => evictW) (i * 8) 0 (looseL 8 (fun k => (f (i * 8 + k)).loose) 8) f)) := by
  have hs := h.s
  have hN8 := h.by8
  have hle := h.le
  have HD := Lib.hid h
  have hdl := h.dlt
  have hbl := h.blt
  have hi1 : (i + 1) * 8 ≤ N := by omega
  have hi2 : i < N / 8 := by omega
  have hi3 : ((i + 1) * 8) - i * 8 = 8 := by omega
  clear h
  refine (callsIn_wide (n := 9)).1 ?_
  refine callsIn_of_wp_marks Tryz.func70 rfl trivial ?_ rfl
  simp only [Tryz.ntmps70, List.size_toArray, List.length_cons, List.length_nil, Nat.reduceAdd, Nat.reduceSub, Array.replicate_succ, Array.replicate_zero, List.push_toArray, List.append_toArray, List.nil_append, List.cons_append]
  gi_wp2_with (refine ⟨trivial, ?_⟩; gi_at_call 74; refine (loose_in Fence.wide _ trivial rfl _ _ _ _).mono ?_; rintro e w' ⟨rfl, rfl⟩)
  have hB1 : ((w.alloc (.cells #[.func (.func 71) #[] #[]] 135)).alloc (.cells #[.slice (some ⟨b, i * 8 * 6, none⟩) 8 (N - i * 8)] 140)).cell? ⟨w.heap.size + 1, 0, none⟩ = some (.slice (some ⟨b, i * 8 * 6, none⟩) 8 (N - i * 8)) := by
    have := World.cell?_alloc_new (w.alloc (.cells #[.func (.func 71) #[] #[]] 135)) #[.slice (some ⟨b, i * 8 * 6, none⟩) 8 (N - i * 8)] 140 0
    rw [World.size_alloc] at this
    rw [this]; simp
  have hB0 : ((w.alloc (.cells #[.func (.func 71) #[] #[]] 135)).alloc (.cells #[.slice (some ⟨b, i * 8 * 6, none⟩) 8 (N - i * 8)] 140)).cell? ⟨w.heap.size, 0, none⟩ = some (.func (.func 71) #[] #[]) := by
    have := World.cell?_alloc_new w #[.func (.func 71) #[] #[]] 135 0
    refine ((Nw.refl.alloc _ : Nw (w.alloc (.cells #[.func (.func 71) #[] #[]] 135)) _).b.cell (p := ⟨w.heap.size, 0, none⟩) (by simp)).trans ?_
    rw [this]; rfl
  have hN0 : Nw w ((w.alloc (.cells #[.func (.func 71) #[] #[]] 135)).alloc (.cells #[.slice (some ⟨b, i * 8 * 6, none⟩) 8 (N - i * 8)] 140)) := (Nw.refl.alloc _).alloc _
  have hs0 : ((w.alloc (.cells #[.func (.func 71) #[] #[]] 135)).alloc (.cells #[.slice (some ⟨b, i * 8 * 6, none⟩) 8 (N - i * 8)] 140)).heap.size = w.heap.size + 2 := by simp
  have hD0 := HD.out.nw hN0
  generalize hW0 : (w.alloc (.cells #[.func (.func 71) #[] #[]] 135)).alloc (.cells #[.slice (some ⟨b, i * 8 * 6, none⟩) 8 (N - i * 8)] 140) = W0 at *
  refine wpIn_range_K rfl (by omega) (gf := 102) (lb := #[.pointer (some ⟨w.heap.size + 1, 0, none⟩)]) rfl trivial (enters_of Tryz.func102 (by kernel_rfl) rfl)
    (fun _ => rfl) (GoneI W0 d b N (fun _ => evictW) (i * 8) f) (fun _ _ _ => False)
    (loose_stops Fence.wide _ trivial rfl (by omega) (w.heap.size + 1) b (i * 8) 8 (N - i * 8) (by omega) (fun k => (f (i * 8 + k)).loose) (GoneI W0 d b N (fun _ => evictW) (i * 8) f)
      (fun pre W hi => hi.2.cell hB1 (by dsimp only; omega))
      (fun pre W k hk hi hp => by
        have := hi.1.a.c2 (i * 8 + k) (by omega)
        rw [gone_other _ _ _ _ (fun x hx => by have := hp x hx; omega)] at this
        rw [← this]; congr 2; omega) W0)
    (goneI_own W0 d b N _ _ f (by omega) (by omega)) (fun _ _ _ _ _ hs _ _ => hs) ⟨hD0, .refl _ _⟩
    (fun x t => t.setIfInBounds 7 (.pointer (some ⟨b, i * 8 * 6 + x.1 * 6, none⟩)))
    ?assign ?body ?done ?stop
  case assign =>
    rintro l pre x W K hi hK
    obtain ⟨xx, hxx⟩ : ∃ xx, i * 8 * 6 + x.1 * 6 = xx := ⟨_, rfl⟩
    unfold wE at hK ⊢
    rw [hxx] at hK ⊢
    simp [Array.zip, go_sem] at hK ⊢
    gi_wp2
    exact hK
  case body =>
    rintro l pre x W hl _ hi _
    have hc := hi.2.cell hB0 (by dsimp only; omega)
    have HI := Lib.hid hi
    have HC := Lib.hid (evict1_any b N _ (i * 8 + x.1) (by have := x.2; omega) W hi.1.a)
    clear hi
    unfold wE
    obtain ⟨xx, hxx⟩ : ∃ xx, i * 8 * 6 + x.1 * 6 = xx := ⟨_, rfl⟩
    rw [show (i * 8 + x.1) * 6 = i * 8 * 6 + x.1 * 6 by omega, hxx] at HC
    rw [hxx]
    simp [Array.zip, go_sem]
    gi_wp2_with (refine ⟨trivial, ?_⟩; gi_at_call 71; refine (CallsIn.inRound l (callsIn_wide.2 HC.out)).mono ?_; rintro e w' ⟨⟨u, rfl⟩, h1, h2⟩)
    exact ⟨h2.keepsFrom (by omega), HI.out.next x h1 h2⟩
  case done =>
    rintro D xs W hD rfl hi hK
    have HI := Lib.hid hi
    clear hi
    gi_wp2
    refine ⟨by simp, .inl ⟨_, _, rfl, run_takeDeferred hK, ?_⟩⟩
    have hu : Up D W (W.putObj D (.deferred none)) := ⟨rfl, rfl, rfl, by simp [World.putObj], fun k hk hn => World.putObj_heap_other hn⟩
    exact ⟨.int .i64 0, by simp [results, Tryz.f70, go_sem], rfl, HI.out.1.up hu (by omega) (by omega), HI.out.2.putDone hN0 hD⟩
  case stop =>
    rintro D c pre W _ _ h _
    exact h.elim
set_option maxHeartbeats 1000000 in
theorem line_out_evict (d b N : Nat) (f : Nat → Wd) (i : Int) (hi : i < 0 ∨ (N : Int) ≤ i * 8) (w : World) (h : DevAt w d b N f) :
    Calls Tryz.prog 70 #[.pointer (some ⟨d, 0, none⟩), .int .i64 i, .func (.func 71) #[] #[]] w fun e w' => e = .returned (.int .i64 8) ∧ Nw w w' := by
  have hle := h.le
  have h8 := h.by8
  have hN0 : Nw w (w.alloc (.cells #[.func (.func 71) #[] #[]] 135)) := Nw.refl.alloc _
  have hs := (h.nw hN0).s
  by_cases h0 : i < 0
  · clear h
    go_enter Tryz.func70, Tryz.ntmps70
    go_wp2_with fail
    go_ret
    exact ⟨rfl, hN0⟩
  · have hi1 : (N : Int) / 8 ≤ i := by omega
    clear h
    go_enter Tryz.func70, Tryz.ntmps70
    go_wp2_with fail
    go_ret
    exact ⟨rfl, hN0⟩
set_option maxHeartbeats 1000000 in
theorem evict_any (d b N : Nat) (f : Nat → Wd) (i : Nat) (hi : i * 8 < N) (w : World) (h : DevAt w d b N f) :
    Calls Tryz.prog 18 #[.pointer (some ⟨d, 0, none⟩), .int .i64 (i : Int)] w (DevG w d b N (evictU i f)) := by
  have HC := Lib.hid (line_evict d b N f i hi w h)
  clear h hi
  go_enter Tryz.func18, Tryz.ntmps18
  go_wp2_with fail
  refine HC.out.mono ?_
  rintro e w' ⟨rfl, h1, h2⟩
  go_wp2_with fail
  go_ret
  exact ⟨rfl, h1.congr (fun k _ => gone_line i _ f k), h2⟩
set_option maxHeartbeats 1000000 in
theorem evict_out (d b N : Nat) (f : Nat → Wd) (i : Int) (hi : i < 0 ∨ (N : Int) ≤ i * 8) (w : World) (h : DevAt w d b N f) :
    Calls Tryz.prog 18 #[.pointer (some ⟨d, 0, none⟩), .int .i64 i] w fun e w' => e = .returned (.int .i64 8) ∧ Nw w w' := by
  have HC := Lib.hid (line_out_evict d b N f i hi w h)
  clear h hi
  go_enter Tryz.func18, Tryz.ntmps18
  go_wp2_with fail
  refine HC.out.mono ?_
  rintro e w' ⟨rfl, h1⟩
  go_wp2_with fail
  go_ret
  exact ⟨rfl, h1⟩

end Go.Proofs.YtkopfnldgnkkoaaGreat

/-
  DEVICES OF N WORDS: Fence, Loose.
-/
namespace Go.Proofs.YtkopfnldgnkkoaaGreat
open Go.RowKit Go.Shelf
set_option linter.unusedVariables false
attribute [local go_sem] Oper.semAt_some

def fenceW (x : Wd) : Wd := if x.flushed then { settleW x x.value with loose := x.again, again := x.again } else x
theorem upd_self (f : Nat → Wd) (k : Nat) (x : Wd) (h : x = f k) : upd f k x = f := by funext i; unfold upd; split <;> simp_all
theorem DevAt.putDone {W : World} {d b N D : Nat} {f : Nat → Wd} (h : DevAt W d b N f) (hd : d < D) (hb : b < D) : DevAt (W.putObj D (.deferred none)) d b N f :=
  h.up (t := D) ⟨rfl, rfl, rfl, by simp [World.putObj], fun k hk hn => World.putObj_heap_other hn⟩ (by omega) (by omega)
def lsL (N : Nat) (f : Nat → Wd) : List (Fin N) := looseL N (fun k => (f (0 + k)).loose) N

set_option maxRecDepth 100000 in
set_option maxHeartbeats 4000000 in
theorem fence_any (d b N : Nat) (f : Nat → Wd) (w : World) (h : DevAt w d b N f) :
    Calls Tryz.prog 117 #[.pointer (some ⟨d, 0, none⟩)] w (DevG w d b N (gone (fun _ => fenceW) 0 0 (lsL N f) f)) := by
  have hs := h.s
  have HD := Lib.hid h
  have hdl := h.dlt
  have hbl := h.blt
  have hle := h.le
  clear h
  refine (callsIn_wide (n := 9)).1 ?_
  refine callsIn_of_wp_marks Tryz.func117 rfl trivial ?_ rfl
  simp only [Tryz.ntmps117, List.size_toArray, List.length_cons, List.length_nil, Nat.reduceAdd, Nat.reduceSub, Array.replicate_succ, Array.replicate_zero, List.push_toArray, List.append_toArray, List.nil_append, List.cons_append]
  gi_wp2_with (refine ⟨trivial, ?_⟩; gi_at_call 74; refine (loose_in Fence.wide _ trivial rfl _ _ _ _).mono ?_; rintro e w' ⟨rfl, rfl⟩)
  have hB1 : (w.alloc (.cells #[.slice (some ⟨b, 0, none⟩) N N] 140)).cell? ⟨w.heap.size, 0, none⟩ = some (.slice (some ⟨b, 0 * 6, none⟩) N N) := by
    have := World.cell?_alloc_new w #[.slice (some ⟨b, 0, none⟩) N N] 140 0
    rw [this]; simp
  have hN0 : Nw w (w.alloc (.cells #[.slice (some ⟨b, 0, none⟩) N N] 140)) := Nw.refl.alloc _
  have hs0 : (w.alloc (.cells #[.slice (some ⟨b, 0, none⟩) N N] 140)).heap.size = w.heap.size + 1 := by simp
  have hD0 := HD.out.nw hN0
  generalize hW0 : w.alloc (.cells #[.slice (some ⟨b, 0, none⟩) N N] 140) = W0 at *
  refine wpIn_range_K rfl (by omega) (gf := 102) (lb := #[.pointer (some ⟨w.heap.size, 0, none⟩)]) rfl trivial (enters_of Tryz.func102 (by kernel_rfl) rfl)
    (fun _ => rfl) (GoneI W0 d b N (fun _ => fenceW) 0 f) (fun _ _ _ => False)
    (loose_stops Fence.wide _ trivial rfl (by omega) w.heap.size b 0 N N (by omega) (fun k => (f (0 + k)).loose) (GoneI W0 d b N (fun _ => fenceW) 0 f)
      (fun pre W hi => hi.2.cell hB1 (by dsimp only; omega))
      (fun pre W k hk hi hp => by
        have := hi.1.a.c2 (0 + k) (by omega)
        rw [gone_other _ _ _ _ (fun x hx => by have := hp x hx; omega)] at this
        rw [← this]; congr 2; omega) W0)
    (goneI_own W0 d b N _ _ f (by omega) (by omega)) (fun _ _ _ _ _ hs _ _ => hs) ⟨hD0, .refl _ _⟩
    (fun x t => t.setIfInBounds 3 (.pointer (some ⟨b, 0 * 6 + x.1 * 6, none⟩)))
    ?assign ?body ?done ?stop
  case assign =>
    rintro l pre x W K hi hK
    obtain ⟨xx, hxx⟩ : ∃ xx, 0 * 6 + x.1 * 6 = xx := ⟨_, rfl⟩
    unfold wE at hK ⊢
    rw [hxx] at hK ⊢
    simp [Array.zip, go_sem] at hK ⊢
    gi_wp2
    exact hK
  case body =>
    rintro l pre x W hl _ hi _
    have hx16 : x.1 < N := x.2
    have HN := Lib.hid (fun W' => GoneI.next (W' := W') hi x)
    have hA := hi.1.a
    clear hi
    generalize hg : gone (fun _ => fenceW) 0 0 pre f = g at hA HN
    have c3 := hA.c3 (0 + x.1) (by omega)
    have c4 := hA.c4 (0 + x.1) (by omega)
    have c5 := hA.c5 (0 + x.1) (by omega)
    have f2 := hA.fr ((0 + x.1) * 6 + 2)
    have f4 := hA.fr ((0 + x.1) * 6 + 4)
    have HC := Lib.hid (settle_any b N g (0 + x.1) (by omega) (g (0 + x.1)).value W hA)
    have HA := Lib.hid hA
    clear hA
    unfold wE
    simp only [Nat.zero_mul, Nat.zero_add] at *
    simp [Array.zip, go_sem]
    cases hfl : (g x.1).flushed
    · rw [hfl] at c3
      gi_wp2
      refine ⟨KeepsFrom.refl _ _, HN.out _ ?_ (Up.refl _ _)⟩
      rw [upd_self _ _ _ (by simp [fenceW, hfl])]
      exact HA.out
    · rw [hfl] at c3
      gi_wp2_with (refine ⟨trivial, ?_⟩; gi_at_call 72; refine (CallsIn.inRound l (callsIn_wide.2 HC.out)).mono ?_; rintro e w' ⟨⟨u, rfl⟩, h1, h2⟩; have e2 := h1.c2 x.1 hx16; have e4 := h1.c4 x.1 hx16; have r2 := h1.fr (x.1 * 6 + 2); have r4 := h1.fr (x.1 * 6 + 4); have H1 := Lib.hid h1; have H2 := Lib.hid h2; clear h1 h2)
      have u := ((Up.refl b w').set (x.1 * 6 + 2) (.bool (g x.1).again)).set (x.1 * 6 + 4) (.bool (g x.1).again)
      refine ⟨(H2.out.trans u).keepsFrom (by omega), HN.out _ ?_ (H2.out.trans u)⟩
      have := (H1.out.set2 x.1 hx16 (g x.1).again).set4 x.1 hx16 (g x.1).again
      simpa only [upd_upd, upd_same, fenceW, hfl, if_true] using this
  case done =>
    rintro D xs W hD rfl hi hK
    have HI := Lib.hid hi
    clear hi
    gi_wp2
    refine ⟨by simp, .inl ⟨_, _, rfl, run_takeDeferred hK, ?_⟩⟩
    exact ⟨.int .i64 0, by simp [results, Tryz.f117, go_sem], rfl, HI.out.1.putDone (by omega) (by omega), HI.out.2.putDone hN0 hD⟩
  case stop =>
    rintro D c pre W _ _ h _
    exact h.elim
def fenceU (f : Nat → Wd) : Nat → Wd := fun k => if (f k).loose = true then fenceW (f k) else f k
theorem gone_all (op : Nat → Wd → Wd) (op' : Wd → Wd) (N : Nat) (f : Nat → Wd) (hop : ∀ j, j < N → ∀ x, op j x = op' x) (k : Nat) (hk : k < N) : gone op 0 0 (lsL N f) f k = if (f k).loose = true then op' (f k) else f k := by
  rw [lsL, gone_loose op op' 0 N f hop k]
  by_cases h : (f k).loose = true
  · rw [if_pos h, if_pos ⟨by omega, by omega, h⟩]
  · rw [if_neg h, if_neg (fun hh => h hh.2.2)]
theorem fenced_any (d b N : Nat) (f : Nat → Wd) (w : World) (h : DevAt w d b N f) :
    Calls Tryz.prog 117 #[.pointer (some ⟨d, 0, none⟩)] w (DevG w d b N (fenceU f)) :=
  (fence_any d b N f w h).mono fun _ _ hh => hh.congr (fun k hk => gone_all (fun _ => fenceW) fenceW N f (fun _ _ _ => rfl) k hk)
def looseN (N : Nat) (f : Nat → Wd) : Nat := (lsL N f).length
theorem looseN_zero (N : Nat) (f : Nat → Wd) : looseN N f = 0 ↔ ∀ k, k < N → (f k).loose = false := by
  unfold looseN
  rw [List.length_eq_zero_iff]
  constructor
  · intro h k hk
    have := (looseL_mem (m := N) (fl := fun k => (f (0 + k)).loose) ⟨k, hk⟩)
    rw [show looseL N (fun k => (f (0 + k)).loose) N = lsL N f from rfl, h] at this
    simp at this
    exact this
  · intro h
    rw [List.eq_nil_iff_forall_not_mem]
    intro x hx
    have := (looseL_mem (m := N) (fl := fun k => (f (0 + k)).loose) x).1 hx
    have h2 := h x.1 x.2
    simp at this
    rw [this] at h2
    cases h2

/-- What is kept while loose words are told. -/
def LooseI (W0 : World) (B d b N : Nat) (f : Nat → Wd) (pre : List (Fin N)) (W : World) : Prop :=
  Boxed W B 3 (.int .i64 pre.length) ∧ DevAt W d b N f ∧ Up B W0 W
theorem looseI_own (W0 : World) (B d b N : Nat) (f : Nat → Wd) (hd : d < W0.heap.size) (hb : b < W0.heap.size) : OwnFrom W0.heap.size (LooseI W0 B d b N f) := by
  rintro pre W W' row ⟨h0, h1, h2⟩ hg hr
  have hf := row_far h2.size hr
  refine ⟨(Own.from (boxed_own _ _ (fun pre : List (Fin N) => Value.int .i64 pre.length)) W0.heap.size) pre W W' row h0 hg hr, h1.up (up_of_grown hg) (by omega) (by omega), ?_⟩
  exact ⟨hg.os.trans h2.os, hg.tape.trans h2.tape, hg.output.trans h2.output, Nat.le_trans h2.size hg.size, fun k hk hn => ((up_of_grown hg).block k (by have := h2.size; omega) (by omega)).trans (h2.block k hk hn)⟩
set_option maxRecDepth 100000 in
set_option maxHeartbeats 4000000 in
theorem loose_any (d b N : Nat) (f : Nat → Wd) (w : World) (h : DevAt w d b N f) :
    Calls Tryz.prog 40 #[.pointer (some ⟨d, 0, none⟩)] w fun e w' => e = .returned (.int .i64 ((lsL N f).length : Nat)) ∧ Nw w w' := by
  have hdl := h.dlt
  have hbl := h.blt
  have hle := h.le
  have hN00 : Nw w (w.alloc (.cells #[.int .i64 0] 3)) := Nw.refl.alloc _
  have HD := Lib.hid (h.nw hN00)
  have hs := (h.nw hN00).s
  clear h
  refine (callsIn_wide (n := 9)).1 ?_
  refine callsIn_of_wp_marks Tryz.func40 rfl trivial ?_ rfl
  simp only [Tryz.ntmps40, List.size_toArray, List.length_cons, List.length_nil, Nat.reduceAdd, Nat.reduceSub, Array.replicate_succ, Array.replicate_zero, List.push_toArray, List.append_toArray, List.nil_append, List.cons_append]
  gi_wp2_with (refine ⟨trivial, ?_⟩; gi_at_call 74; refine (loose_in Fence.wide _ trivial rfl _ _ _ _).mono ?_; rintro e w' ⟨rfl, rfl⟩)
  have hB1 : ((w.alloc (.cells #[.int .i64 0] 3)).alloc (.cells #[.slice (some ⟨b, 0, none⟩) N N] 140)).cell? ⟨w.heap.size + 1, 0, none⟩ = some (.slice (some ⟨b, 0 * 6, none⟩) N N) := by
    have := World.cell?_alloc_new (w.alloc (.cells #[.int .i64 0] 3)) #[.slice (some ⟨b, 0, none⟩) N N] 140 0
    rw [World.size_alloc] at this
    rw [this]; simp
  have hN0 : Nw w ((w.alloc (.cells #[.int .i64 0] 3)).alloc (.cells #[.slice (some ⟨b, 0, none⟩) N N] 140)) := hN00.alloc _
  have hs0 : ((w.alloc (.cells #[.int .i64 0] 3)).alloc (.cells #[.slice (some ⟨b, 0, none⟩) N N] 140)).heap.size = w.heap.size + 2 := by simp
  have hD0 := HD.out.nw (Nw.refl.alloc (.cells #[.slice (some ⟨b, 0, none⟩) N N] 140))
  have hb0 : Boxed ((w.alloc (.cells #[.int .i64 0] 3)).alloc (.cells #[.slice (some ⟨b, 0, none⟩) N N] 140)) w.heap.size 3 (.int .i64 0) := (Boxed.new w _ _).alloc _
  generalize hW0 : (w.alloc (.cells #[.int .i64 0] 3)).alloc (.cells #[.slice (some ⟨b, 0, none⟩) N N] 140) = W0 at *
  refine wpIn_range_K rfl (by omega) (gf := 102) (lb := #[.pointer (some ⟨w.heap.size + 1, 0, none⟩)]) rfl trivial (enters_of Tryz.func102 (by kernel_rfl) rfl)
    (fun _ => rfl) (LooseI W0 w.heap.size d b N f) (fun _ _ _ => False)
    (loose_stops Fence.wide _ trivial rfl (by omega) (w.heap.size + 1) b 0 N N (by omega) (fun k => (f (0 + k)).loose) (LooseI W0 w.heap.size d b N f)
      (fun pre W hi => hi.2.2.cell hB1 (by dsimp only; omega))
      (fun pre W k hk hi hp => by
        have := hi.2.1.a.c2 (0 + k) (by omega)
        rw [← this]; congr 2; omega) W0)
    (looseI_own W0 _ d b N f (by omega) (by omega)) (fun _ _ _ _ _ hs _ _ => hs) ⟨hb0, hD0, .refl _ _⟩
    (fun x t => t)
    ?assign ?body ?done ?stop
  case assign =>
    rintro l pre x W K hi hK
    unfold wE at hK ⊢
    simp [Array.zip, go_sem] at hK ⊢
    gi_wp2
    exact hK
  case body =>
    rintro l pre x W hl _ hi hlt
    obtain ⟨h0, h1, h2⟩ := hi
    have c0 := h0.cell
    have f0 := h0.frozen
    have HB := Lib.hid h0
    have HD1 := Lib.hid h1
    have HU := Lib.hid h2
    have hsz := h2.size
    clear h0 h1 h2
    unfold wE
    simp [Array.zip, go_sem]
    gi_wp2
    have u := (Up.refl w.heap.size W).set 0 (.int .i64 (pre.length + 1))
    refine ⟨u.keepsFrom (by omega), ?_, HD1.out.up u (by omega) (by omega), HU.out.trans u⟩
    rw [List.length_append]
    exact HB.out.set _
  case done =>
    rintro D xs W hD rfl ⟨h0, h1, h2⟩ hK
    have c0 := h0.cell
    have f0 := h0.frozen
    have HB := Lib.hid h0
    have HU := Lib.hid h2
    have hne0 : D ≠ w.heap.size := by omega
    obtain ⟨M, hM⟩ : ∃ M, (lsL N f).length = M := ⟨_, rfl⟩
    rw [show looseL N (fun k => (f (0 + k)).loose) N = lsL N f from rfl, hM] at c0 HB
    clear h0 h2
    gi_wp2
    have hK2 := (Below.heap_setCell W ⟨w.heap.size, 0, none⟩ (.int .i64 M) D hne0).trans hK
    refine ⟨by simp, .inl ⟨_, _, rfl, run_takeDeferred hK2, ?_⟩⟩
    have bO2 := HB.out.set (.int .i64 M)
    have bO3 : Boxed ((W.setCell ⟨w.heap.size, 0, none⟩ (.int .i64 M)).putObj D (.deferred none)) w.heap.size 3 (.int .i64 M) := (World.putObj_heap_other (Ne.symm hne0)).trans bO2
    have hc2 := bO3.cell
    have hu : Up w.heap.size W0 (W.setCell ⟨w.heap.size, 0, none⟩ (.int .i64 M)) := HU.out.trans ((Up.refl w.heap.size W).set 0 _)
    have hf := Up.putDone hu hN0 hD
    generalize (W.setCell ⟨w.heap.size, 0, none⟩ (.int .i64 M)).putObj D (.deferred none) = W9 at *
    exact ⟨.int .i64 M, by simp [results, Tryz.f40, go_sem, hc2], by rw [hM], ⟨⟨hf.os, hf.tape, hf.output, hf.size, fun k hk => hf.block k hk (by omega)⟩⟩⟩
  case stop =>
    rintro D c pre W _ _ h _
    exact h.elim

end Go.Proofs.YtkopfnldgnkkoaaGreat
