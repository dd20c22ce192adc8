/-
  DEVICES OF N WORDS: words in memory; at, Store, Load, Words.
-/
import Derived.Test.YtkopfnldgnkkoaaFr
namespace Go.Proofs.Ytkopfnldgnkkoaa
open Go.RowKit Go.Shelf
set_option linter.unusedVariables false

/-- A word: what is sure, what is seen, its marks. -/
structure Wd where
  sure : Int
  seen : Int
  loose : Bool
  flushed : Bool
  again : Bool
  value : Int
/-- n words lie in block b. -/
structure WAt (W : World) (b n : Nat) (f : Nat → Wd) : Prop where
  c0 : ∀ i, i < n → W.cell? ⟨b, i * 6, none⟩ = some (.int .u64 (f i).sure)
  c1 : ∀ i, i < n → W.cell? ⟨b, i * 6 + 1, none⟩ = some (.int .u64 (f i).seen)
  c2 : ∀ i, i < n → W.cell? ⟨b, i * 6 + 2, none⟩ = some (.bool (f i).loose)
  c3 : ∀ i, i < n → W.cell? ⟨b, i * 6 + 3, none⟩ = some (.bool (f i).flushed)
  c4 : ∀ i, i < n → W.cell? ⟨b, i * 6 + 4, none⟩ = some (.bool (f i).again)
  c5 : ∀ i, i < n → W.cell? ⟨b, i * 6 + 5, none⟩ = some (.int .u64 (f i).value)
  ty : Tag W b 110
theorem WAt.up {W W' : World} {b n t : Nat} {f : Nat → Wd} (h : WAt W b n f) (k : Up t W W') (ht : b ≠ t) : WAt W' b n f := by
  exact ⟨fun i hi => k.cell (h.c0 i hi) ht, fun i hi => k.cell (h.c1 i hi) ht, fun i hi => k.cell (h.c2 i hi) ht, fun i hi => k.cell (h.c3 i hi) ht, fun i hi => k.cell (h.c4 i hi) ht, fun i hi => k.cell (h.c5 i hi) ht, h.ty.up k ht⟩
theorem WAt.fr {W : World} {b n : Nat} {f : Nat → Wd} (h : WAt W b n f) (j : Nat) : W.frozen? ⟨b, j, none⟩ = false := h.ty.frozen j
def upd (f : Nat → Wd) (k : Nat) (x : Wd) : Nat → Wd := fun i => if i = k then x else f i
theorem upd_upd (f : Nat → Wd) (k : Nat) (x y : Wd) : upd (upd f k x) k y = upd f k y := by
  funext i; unfold upd; split <;> rfl
theorem upd_same (f : Nat → Wd) (k : Nat) (x : Wd) : upd f k x k = x := by unfold upd; rw [if_pos rfl]
theorem WAt.set0 {W : World} {b n : Nat} {f : Nat → Wd} (h : WAt W b n f) (k : Nat) (hk : k < n) (v : Int) : WAt (W.setCell ⟨b, k * 6, none⟩ (.int .u64 v)) b n (upd f k { f k with sure := v }) := by
  refine ⟨fun i hi => cell_set W b _ _ _ _ (h.c0 i hi) _ ?_, fun i hi => cell_set W b _ _ _ _ (h.c1 i hi) _ ?_, fun i hi => cell_set W b _ _ _ _ (h.c2 i hi) _ ?_, fun i hi => cell_set W b _ _ _ _ (h.c3 i hi) _ ?_, fun i hi => cell_set W b _ _ _ _ (h.c4 i hi) _ ?_, fun i hi => cell_set W b _ _ _ _ (h.c5 i hi) _ ?_, h.ty.set _ _ _⟩
  all_goals
    by_cases e : i = k
    · subst e
      first
        | (rw [if_pos rfl]; simp [upd])
        | (rw [if_neg (by omega)]; simp [upd])
    · rw [if_neg (by omega)]; simp [upd, e]
theorem WAt.set1 {W : World} {b n : Nat} {f : Nat → Wd} (h : WAt W b n f) (k : Nat) (hk : k < n) (v : Int) : WAt (W.setCell ⟨b, k * 6 + 1, none⟩ (.int .u64 v)) b n (upd f k { f k with seen := v }) := by
  refine ⟨fun i hi => cell_set W b _ _ _ _ (h.c0 i hi) _ ?_, fun i hi => cell_set W b _ _ _ _ (h.c1 i hi) _ ?_, fun i hi => cell_set W b _ _ _ _ (h.c2 i hi) _ ?_, fun i hi => cell_set W b _ _ _ _ (h.c3 i hi) _ ?_, fun i hi => cell_set W b _ _ _ _ (h.c4 i hi) _ ?_, fun i hi => cell_set W b _ _ _ _ (h.c5 i hi) _ ?_, h.ty.set _ _ _⟩
  all_goals
    by_cases e : i = k
    · subst e
      first
        | (rw [if_pos rfl]; simp [upd])
        | (rw [if_neg (by omega)]; simp [upd])
    · rw [if_neg (by omega)]; simp [upd, e]
theorem WAt.set2 {W : World} {b n : Nat} {f : Nat → Wd} (h : WAt W b n f) (k : Nat) (hk : k < n) (v : Bool) : WAt (W.setCell ⟨b, k * 6 + 2, none⟩ (.bool v)) b n (upd f k { f k with loose := v }) := by
  refine ⟨fun i hi => cell_set W b _ _ _ _ (h.c0 i hi) _ ?_, fun i hi => cell_set W b _ _ _ _ (h.c1 i hi) _ ?_, fun i hi => cell_set W b _ _ _ _ (h.c2 i hi) _ ?_, fun i hi => cell_set W b _ _ _ _ (h.c3 i hi) _ ?_, fun i hi => cell_set W b _ _ _ _ (h.c4 i hi) _ ?_, fun i hi => cell_set W b _ _ _ _ (h.c5 i hi) _ ?_, h.ty.set _ _ _⟩
  all_goals
    by_cases e : i = k
    · subst e
      first
        | (rw [if_pos rfl]; simp [upd])
        | (rw [if_neg (by omega)]; simp [upd])
    · rw [if_neg (by omega)]; simp [upd, e]
theorem WAt.set3 {W : World} {b n : Nat} {f : Nat → Wd} (h : WAt W b n f) (k : Nat) (hk : k < n) (v : Bool) : WAt (W.setCell ⟨b, k * 6 + 3, none⟩ (.bool v)) b n (upd f k { f k with flushed := v }) := by
  refine ⟨fun i hi => cell_set W b _ _ _ _ (h.c0 i hi) _ ?_, fun i hi => cell_set W b _ _ _ _ (h.c1 i hi) _ ?_, fun i hi => cell_set W b _ _ _ _ (h.c2 i hi) _ ?_, fun i hi => cell_set W b _ _ _ _ (h.c3 i hi) _ ?_, fun i hi => cell_set W b _ _ _ _ (h.c4 i hi) _ ?_, fun i hi => cell_set W b _ _ _ _ (h.c5 i hi) _ ?_, h.ty.set _ _ _⟩
  all_goals
    by_cases e : i = k
    · subst e
      first
        | (rw [if_pos rfl]; simp [upd])
        | (rw [if_neg (by omega)]; simp [upd])
    · rw [if_neg (by omega)]; simp [upd, e]
theorem WAt.set4 {W : World} {b n : Nat} {f : Nat → Wd} (h : WAt W b n f) (k : Nat) (hk : k < n) (v : Bool) : WAt (W.setCell ⟨b, k * 6 + 4, none⟩ (.bool v)) b n (upd f k { f k with again := v }) := by
  refine ⟨fun i hi => cell_set W b _ _ _ _ (h.c0 i hi) _ ?_, fun i hi => cell_set W b _ _ _ _ (h.c1 i hi) _ ?_, fun i hi => cell_set W b _ _ _ _ (h.c2 i hi) _ ?_, fun i hi => cell_set W b _ _ _ _ (h.c3 i hi) _ ?_, fun i hi => cell_set W b _ _ _ _ (h.c4 i hi) _ ?_, fun i hi => cell_set W b _ _ _ _ (h.c5 i hi) _ ?_, h.ty.set _ _ _⟩
  all_goals
    by_cases e : i = k
    · subst e
      first
        | (rw [if_pos rfl]; simp [upd])
        | (rw [if_neg (by omega)]; simp [upd])
    · rw [if_neg (by omega)]; simp [upd, e]
theorem WAt.set5 {W : World} {b n : Nat} {f : Nat → Wd} (h : WAt W b n f) (k : Nat) (hk : k < n) (v : Int) : WAt (W.setCell ⟨b, k * 6 + 5, none⟩ (.int .u64 v)) b n (upd f k { f k with value := v }) := by
  refine ⟨fun i hi => cell_set W b _ _ _ _ (h.c0 i hi) _ ?_, fun i hi => cell_set W b _ _ _ _ (h.c1 i hi) _ ?_, fun i hi => cell_set W b _ _ _ _ (h.c2 i hi) _ ?_, fun i hi => cell_set W b _ _ _ _ (h.c3 i hi) _ ?_, fun i hi => cell_set W b _ _ _ _ (h.c4 i hi) _ ?_, fun i hi => cell_set W b _ _ _ _ (h.c5 i hi) _ ?_, h.ty.set _ _ _⟩
  all_goals
    by_cases e : i = k
    · subst e
      first
        | (rw [if_pos rfl]; simp [upd])
        | (rw [if_neg (by omega)]; simp [upd])
    · rw [if_neg (by omega)]; simp [upd, e]
/-- A device of N words. -/
structure DevAt (W : World) (d b N : Nat) (f : Nat → Wd) : Prop where
  k : Blk W d #[.slice (some ⟨b, 0, none⟩) N N] 117
  a : WAt W b N f
  pos : 8 ≤ N
  le : N ≤ 65536
  by8 : N % 8 = 0
theorem DevAt.s {W : World} {d b N : Nat} {f : Nat → Wd} (h : DevAt W d b N f) : W.cell? ⟨d, 0, none⟩ = some (.slice (some ⟨b, 0, none⟩) N N) := h.k.cell rfl
theorem DevAt.ne {W : World} {d b N : Nat} {f : Nat → Wd} (h : DevAt W d b N f) : d ≠ b := h.k.tag.ne h.a.ty (by decide)
theorem DevAt.dlt {W : World} {d b N : Nat} {f : Nat → Wd} (h : DevAt W d b N f) : d < W.heap.size := h.k.lt
theorem DevAt.blt {W : World} {d b N : Nat} {f : Nat → Wd} (h : DevAt W d b N f) : b < W.heap.size := h.a.ty.lt
theorem DevAt.up {W W' : World} {d b N t : Nat} {f : Nat → Wd} (h : DevAt W d b N f) (k : Up t W W') (hd : d ≠ t) (hb : b ≠ t) : DevAt W' d b N f :=
  ⟨h.k.up k hd, h.a.up k hb, h.pos, h.le, h.by8⟩
theorem DevAt.nw {W W' : World} {d b N : Nat} {f : Nat → Wd} (h : DevAt W d b N f) (k : Nw W W') : DevAt W' d b N f :=
  h.up (t := W.heap.size) (.of_nw k) (Nat.ne_of_lt h.dlt) (Nat.ne_of_lt h.blt)
theorem WAt.upo {O : Nat → Prop} {W W' : World} {b n : Nat} {f : Nat → Wd} (h : WAt W b n f) (k : UpO O W W') (hb : ¬ O b) : WAt W' b n f :=
  ⟨fun i hi => k.cell (h.c0 i hi) hb, fun i hi => k.cell (h.c1 i hi) hb, fun i hi => k.cell (h.c2 i hi) hb, fun i hi => k.cell (h.c3 i hi) hb, fun i hi => k.cell (h.c4 i hi) hb, fun i hi => k.cell (h.c5 i hi) hb, k.tag h.ty hb⟩
theorem DevAt.upo {O : Nat → Prop} {W W' : World} {d b N : Nat} {f : Nat → Wd} (h : DevAt W d b N f) (k : UpO O W W') (hd : ¬ O d) (hb : ¬ O b) : DevAt W' d b N f :=
  ⟨k.blk h.k hd, h.a.upo k hb, h.pos, h.le, h.by8⟩

set_option maxHeartbeats 1000000 in
theorem at_any (d b N : Nat) (f : Nat → Wd) (k : Nat) (hk : k < N) (w : World) (h : DevAt w d b N f) :
    Calls Try.prog 62 #[.pointer (some ⟨d, 0, none⟩), .int .i64 (k : Int)] w fun e w' => e = .returned (.tuple #[.pointer (some ⟨b, k * 6, none⟩), .int .i64 0]) ∧ w = w' := by
  have hs := h.s
  have hl := h.le
  clear h
  go_enter Try.func62, Try.ntmps62
  go_wp2_with fail
  go_ret2
  exact ⟨rfl, rfl⟩
set_option maxHeartbeats 1000000 in
theorem at_out (d b N : Nat) (f : Nat → Wd) (k : Int) (hk : k < 0 ∨ (N : Int) ≤ k) (w : World) (h : DevAt w d b N f) :
    Calls Try.prog 62 #[.pointer (some ⟨d, 0, none⟩), .int .i64 k] w fun e w' => e = .returned (.tuple #[.pointer none, .int .i64 8]) ∧ w = w' := by
  have hs := h.s
  have hl := h.le
  clear h
  by_cases h0 : k < 0
  · go_enter Try.func62, Try.ntmps62
    go_wp2_with fail
    go_ret2
    exact ⟨rfl, rfl⟩
  · have h1 : (N : Int) ≤ k := by omega
    go_enter Try.func62, Try.ntmps62
    go_wp2_with fail
    go_ret2
    exact ⟨rfl, rfl⟩
def storeW (x : Wd) (v : Int) : Wd := { x with seen := v, loose := true, again := true }
set_option maxHeartbeats 1000000 in
theorem store_any (d b N : Nat) (f : Nat → Wd) (k : Nat) (hk : k < N) (v : Int) (w : World) (h : DevAt w d b N f) :
    Calls Try.prog 32 #[.pointer (some ⟨d, 0, none⟩), .int .i64 (k : Int), .int .u64 v] w fun e w' => e = .returned (.int .i64 0) ∧ DevAt w' d b N (upd f k (storeW (f k) v)) ∧ Up b w w' := by
  have HC := Lib.hid (at_any d b N f k hk w h)
  have HD := Lib.hid h
  have c1 := h.a.c1 k hk
  have c2 := h.a.c2 k hk
  have c4 := h.a.c4 k hk
  have f1 := h.a.fr (k * 6 + 1)
  have f2 := h.a.fr (k * 6 + 2)
  have f4 := h.a.fr (k * 6 + 4)
  clear h
  go_enter Try.func32, Try.ntmps32
  go_wp2_with fail
  refine HC.out.mono ?_
  rintro e w' ⟨rfl, rfl⟩
  go_wp2_with fail
  go_ret
  have u := (((Up.refl b w).set (k * 6 + 1) (.int .u64 v)).set (k * 6 + 2) (.bool true)).set (k * 6 + 4) (.bool true)
  refine ⟨rfl, ⟨HD.out.k.up u HD.out.ne, ?_, HD.out.pos, HD.out.le, HD.out.by8⟩, u⟩
  have := ((HD.out.a.set1 k hk v).set2 k hk true).set4 k hk true
  simpa only [upd_upd, upd_same, storeW] using this

set_option maxHeartbeats 1000000 in
theorem store_out (d b N : Nat) (f : Nat → Wd) (k : Int) (hk : k < 0 ∨ (N : Int) ≤ k) (v : Int) (w : World) (h : DevAt w d b N f) :
    Calls Try.prog 32 #[.pointer (some ⟨d, 0, none⟩), .int .i64 k, .int .u64 v] w fun e w' => e = .returned (.int .i64 8) ∧ w = w' := by
  have HC := Lib.hid (at_out d b N f k hk w h)
  clear h hk
  go_enter Try.func32, Try.ntmps32
  go_wp2_with fail
  refine HC.out.mono ?_
  rintro e w' ⟨rfl, rfl⟩
  go_wp2_with fail
  go_ret
  exact ⟨rfl, rfl⟩
set_option maxHeartbeats 1000000 in
theorem load_any (d b N : Nat) (f : Nat → Wd) (k : Nat) (hk : k < N) (w : World) (h : DevAt w d b N f) :
    Calls Try.prog 30 #[.pointer (some ⟨d, 0, none⟩), .int .i64 (k : Int)] w fun e w' => e = .returned (.tuple #[.int .u64 (f k).seen, .int .i64 0]) ∧ w = w' := by
  have HC := Lib.hid (at_any d b N f k hk w h)
  have c1 := h.a.c1 k hk
  clear h
  go_enter Try.func30, Try.ntmps30
  go_wp2_with fail
  refine HC.out.mono ?_
  rintro e w' ⟨rfl, rfl⟩
  go_wp2_with fail
  go_ret2
  exact ⟨rfl, rfl⟩
set_option maxHeartbeats 1000000 in
theorem dwords_any (d b N : Nat) (f : Nat → Wd) (w : World) (h : DevAt w d b N f) :
    Calls Try.prog 40 #[.pointer (some ⟨d, 0, none⟩)] w fun e w' => e = .returned (.int .i64 (N : Int)) ∧ w = w' := by
  have hs := h.s
  have hl := h.le
  clear h
  go_enter Try.func40, Try.ntmps40
  go_wp2_with fail
  go_ret
  exact ⟨rfl, rfl⟩

end Go.Proofs.Ytkopfnldgnkkoaa
