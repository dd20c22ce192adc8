/-
  DEVICES: words in memory; New, at, Store, Load, settle, the two things that are done with a word.
-/
import Derived.Test.YtfjobldfdakfpaaProg
import Derived.Test.YtfjobldfdakfpaaLib
import Derived.Test.YtfjobldfdakfpaaRangeJ
import Derived.Shelf.Abstract
import Derived.Shelf.RegionOpen
import Derived.OwnWalkIn
import Derived.TacticsInMore
import Derived.LoopNIn
import Derived.LoopIn
import Derived.Laws.EntriesVeiled
namespace Go.Proofs.Ytfjobldfdakfpaa
open Go.RowKit Go.Shelf
set_option linter.unusedVariables false

/-- Only new memory. -/
structure Nw (w0 w : World) : Prop where
  b : Below w0.heap.size w0 w
theorem Nw.alloc {w0 w : World} (h : Nw w0 w) (o : Obj) : Nw w0 (w.alloc o) := ⟨h.b.alloc h.b.size o⟩
theorem Nw.drew {w0 w : World} (h : Nw w0 w) : Nw w0 w.drew := ⟨h.b.drew⟩
theorem Nw.drewN {w0 w : World} (h : Nw w0 w) (n : Nat) : Nw w0 (w.drewN n) := ⟨below_drewN h.b n⟩
theorem Nw.trans {a b c : World} (h : Nw a b) (k : Nw b c) : Nw a c := ⟨h.b.trans (k.b.mono h.b.size)⟩
theorem Nw.refl {w : World} : Nw w w := ⟨Below.refl _ _⟩

/-- Only new memory, and block t. -/
structure Up (t : Nat) (w w' : World) : Prop where
  os : w'.os = w.os
  tape : w'.tape = w.tape
  output : w'.output = w.output
  size : w.heap.size ≤ w'.heap.size
  block : ∀ k, k < w.heap.size → k ≠ t → w'.heap[k]? = w.heap[k]?
theorem Up.refl (t : Nat) (w : World) : Up t w w := ⟨rfl, rfl, rfl, Nat.le_refl _, fun _ _ _ => rfl⟩
theorem Up.trans {t : Nat} {a b c : World} (h : Up t a b) (k : Up t b c) : Up t a c :=
  ⟨k.os.trans h.os, k.tape.trans h.tape, k.output.trans h.output, Nat.le_trans h.size k.size, fun i hi hn => (k.block i (Nat.lt_of_lt_of_le hi h.size) hn).trans (h.block i hi hn)⟩
theorem Up.of_nw {t : Nat} {a b : World} (h : Nw a b) : Up t a b := ⟨h.b.os, h.b.tape, h.b.output, h.b.size, fun k hk _ => h.b.block k hk⟩
theorem Up.nw {t : Nat} {a b c : World} (h : Up t a b) (k : Nw b c) : Up t a c := h.trans (.of_nw k)
theorem Up.set {t : Nat} {a b : World} (h : Up t a b) (j : Nat) (v : Value) : Up t a (b.setCell ⟨t, j, none⟩ v) :=
  h.trans ⟨rfl, rfl, rfl, by simp [World.setCell], fun k _ hn => Below.heap_setCell b ⟨t, j, none⟩ v k hn⟩
theorem Up.alloc {t : Nat} {a b : World} (h : Up t a b) (o : Obj) : Up t a (b.alloc o) := h.nw (Nw.refl.alloc o)
theorem Up.cell {t : Nat} {a b : World} (h : Up t a b) {p : Addr} {v : Value} (hc : a.cell? p = some v) (hn : p.block ≠ t) : b.cell? p = some v :=
  (World.cell?_of_block (w := a) (h.block p.block (cell_lt hc).1 hn)).trans hc
theorem Up.frozen {t : Nat} {a b : World} (h : Up t a b) {p : Addr} (hl : p.block < a.heap.size) (hn : p.block ≠ t) : b.frozen? p = a.frozen? p :=
  World.frozen?_of_block (w := a) (h.block p.block hl hn)
theorem Up.below {t B : Nat} {w0 a b : World} (k : Below B w0 a) (h : Up t a b) (hB : B ≤ a.heap.size) (ht : B ≤ t) : Below B w0 b :=
  k.trans ⟨h.os, h.tape, h.output, h.size, fun i hi => h.block i (by omega) (by omega)⟩

/-- A word: what is sure, what is seen, its marks. -/
structure Wd where
  sure : Int
  seen : Int
  loose : Bool
  flushed : Bool
  again : Bool
  value : Int
/-- n words lie in block b. -/
structure WAt (W : World) (b n : Nat) (f : Nat → Wd) : Prop where
  c0 : ∀ i, i < n → W.cell? ⟨b, i * 6, none⟩ = some (.int .u64 (f i).sure)
  c1 : ∀ i, i < n → W.cell? ⟨b, i * 6 + 1, none⟩ = some (.int .u64 (f i).seen)
  c2 : ∀ i, i < n → W.cell? ⟨b, i * 6 + 2, none⟩ = some (.bool (f i).loose)
  c3 : ∀ i, i < n → W.cell? ⟨b, i * 6 + 3, none⟩ = some (.bool (f i).flushed)
  c4 : ∀ i, i < n → W.cell? ⟨b, i * 6 + 4, none⟩ = some (.bool (f i).again)
  c5 : ∀ i, i < n → W.cell? ⟨b, i * 6 + 5, none⟩ = some (.int .u64 (f i).value)
  fr : ∀ j, W.frozen? ⟨b, j, none⟩ = false
theorem WAt.up {W W' : World} {b n t : Nat} {f : Nat → Wd} (h : WAt W b n f) (k : Up t W W') (ht : b ≠ t) (hn : 0 < n) : WAt W' b n f := by
  have hl : b < W.heap.size := (cell_lt (h.c0 0 hn)).1
  exact ⟨fun i hi => k.cell (h.c0 i hi) ht, fun i hi => k.cell (h.c1 i hi) ht, fun i hi => k.cell (h.c2 i hi) ht, fun i hi => k.cell (h.c3 i hi) ht, fun i hi => k.cell (h.c4 i hi) ht, fun i hi => k.cell (h.c5 i hi) ht, fun j => (k.frozen (p := ⟨b, j, none⟩) hl ht).trans (h.fr j)⟩
def upd (f : Nat → Wd) (k : Nat) (x : Wd) : Nat → Wd := fun i => if i = k then x else f i
theorem cell_set (W : World) (b j j' : Nat) (v u : Value) (h : W.cell? ⟨b, j, none⟩ = some u) (v' : Value) (hv : if j = j' then v = v' else u = v') : (W.setCell ⟨b, j', none⟩ v).cell? ⟨b, j, none⟩ = some v' := by
  by_cases e : j = j'
  · subst e
    rw [if_pos rfl] at hv
    subst hv
    exact World.cell?_setCell_same' _ _ _ (by rw [h]; rfl)
  · rw [if_neg e] at hv
    subst hv
    exact (World.cell?_setCell_other W ⟨b, j', none⟩ ⟨b, j, none⟩ v (fun h => e (by simpa using h.symm))).trans h
theorem upd_upd (f : Nat → Wd) (k : Nat) (x y : Wd) : upd (upd f k x) k y = upd f k y := by
  funext i; unfold upd; split <;> rfl
theorem upd_same (f : Nat → Wd) (k : Nat) (x : Wd) : upd f k x k = x := by unfold upd; rw [if_pos rfl]
theorem WAt.set0 {W : World} {b n : Nat} {f : Nat → Wd} (h : WAt W b n f) (k : Nat) (hk : k < n) (v : Int) : WAt (W.setCell ⟨b, k * 6, none⟩ (.int .u64 v)) b n (upd f k { f k with sure := v }) := by
  refine ⟨fun i hi => cell_set W b _ _ _ _ (h.c0 i hi) _ ?_, fun i hi => cell_set W b _ _ _ _ (h.c1 i hi) _ ?_, fun i hi => cell_set W b _ _ _ _ (h.c2 i hi) _ ?_, fun i hi => cell_set W b _ _ _ _ (h.c3 i hi) _ ?_, fun i hi => cell_set W b _ _ _ _ (h.c4 i hi) _ ?_, fun i hi => cell_set W b _ _ _ _ (h.c5 i hi) _ ?_, fun j => by rw [World.frozen?_setCell]; exact h.fr j⟩
  all_goals
    by_cases e : i = k
    · subst e
      first
        | (rw [if_pos rfl]; simp [upd])
        | (rw [if_neg (by omega)]; simp [upd])
    · rw [if_neg (by omega)]; simp [upd, e]
theorem WAt.set1 {W : World} {b n : Nat} {f : Nat → Wd} (h : WAt W b n f) (k : Nat) (hk : k < n) (v : Int) : WAt (W.setCell ⟨b, k * 6 + 1, none⟩ (.int .u64 v)) b n (upd f k { f k with seen := v }) := by
  refine ⟨fun i hi => cell_set W b _ _ _ _ (h.c0 i hi) _ ?_, fun i hi => cell_set W b _ _ _ _ (h.c1 i hi) _ ?_, fun i hi => cell_set W b _ _ _ _ (h.c2 i hi) _ ?_, fun i hi => cell_set W b _ _ _ _ (h.c3 i hi) _ ?_, fun i hi => cell_set W b _ _ _ _ (h.c4 i hi) _ ?_, fun i hi => cell_set W b _ _ _ _ (h.c5 i hi) _ ?_, fun j => by rw [World.frozen?_setCell]; exact h.fr j⟩
  all_goals
    by_cases e : i = k
    · subst e
      first
        | (rw [if_pos rfl]; simp [upd])
        | (rw [if_neg (by omega)]; simp [upd])
    · rw [if_neg (by omega)]; simp [upd, e]
theorem WAt.set2 {W : World} {b n : Nat} {f : Nat → Wd} (h : WAt W b n f) (k : Nat) (hk : k < n) (v : Bool) : WAt (W.setCell ⟨b, k * 6 + 2, none⟩ (.bool v)) b n (upd f k { f k with loose := v }) := by
  refine ⟨fun i hi => cell_set W b _ _ _ _ (h.c0 i hi) _ ?_, fun i hi => cell_set W b _ _ _ _ (h.c1 i hi) _ ?_, fun i hi => cell_set W b _ _ _ _ (h.c2 i hi) _ ?_, fun i hi => cell_set W b _ _ _ _ (h.c3 i hi) _ ?_, fun i hi => cell_set W b _ _ _ _ (h.c4 i hi) _ ?_, fun i hi => cell_set W b _ _ _ _ (h.c5 i hi) _ ?_, fun j => by rw [World.frozen?_setCell]; exact h.fr j⟩
  all_goals
    by_cases e : i = k
    · subst e
      first
        | (rw [if_pos rfl]; simp [upd])
        | (rw [if_neg (by omega)]; simp [upd])
    · rw [if_neg (by omega)]; simp [upd, e]
theorem WAt.set3 {W : World} {b n : Nat} {f : Nat → Wd} (h : WAt W b n f) (k : Nat) (hk : k < n) (v : Bool) : WAt (W.setCell ⟨b, k * 6 + 3, none⟩ (.bool v)) b n (upd f k { f k with flushed := v }) := by
  refine ⟨fun i hi => cell_set W b _ _ _ _ (h.c0 i hi) _ ?_, fun i hi => cell_set W b _ _ _ _ (h.c1 i hi) _ ?_, fun i hi => cell_set W b _ _ _ _ (h.c2 i hi) _ ?_, fun i hi => cell_set W b _ _ _ _ (h.c3 i hi) _ ?_, fun i hi => cell_set W b _ _ _ _ (h.c4 i hi) _ ?_, fun i hi => cell_set W b _ _ _ _ (h.c5 i hi) _ ?_, fun j => by rw [World.frozen?_setCell]; exact h.fr j⟩
  all_goals
    by_cases e : i = k
    · subst e
      first
        | (rw [if_pos rfl]; simp [upd])
        | (rw [if_neg (by omega)]; simp [upd])
    · rw [if_neg (by omega)]; simp [upd, e]
theorem WAt.set4 {W : World} {b n : Nat} {f : Nat → Wd} (h : WAt W b n f) (k : Nat) (hk : k < n) (v : Bool) : WAt (W.setCell ⟨b, k * 6 + 4, none⟩ (.bool v)) b n (upd f k { f k with again := v }) := by
  refine ⟨fun i hi => cell_set W b _ _ _ _ (h.c0 i hi) _ ?_, fun i hi => cell_set W b _ _ _ _ (h.c1 i hi) _ ?_, fun i hi => cell_set W b _ _ _ _ (h.c2 i hi) _ ?_, fun i hi => cell_set W b _ _ _ _ (h.c3 i hi) _ ?_, fun i hi => cell_set W b _ _ _ _ (h.c4 i hi) _ ?_, fun i hi => cell_set W b _ _ _ _ (h.c5 i hi) _ ?_, fun j => by rw [World.frozen?_setCell]; exact h.fr j⟩
  all_goals
    by_cases e : i = k
    · subst e
      first
        | (rw [if_pos rfl]; simp [upd])
        | (rw [if_neg (by omega)]; simp [upd])
    · rw [if_neg (by omega)]; simp [upd, e]
theorem WAt.set5 {W : World} {b n : Nat} {f : Nat → Wd} (h : WAt W b n f) (k : Nat) (hk : k < n) (v : Int) : WAt (W.setCell ⟨b, k * 6 + 5, none⟩ (.int .u64 v)) b n (upd f k { f k with value := v }) := by
  refine ⟨fun i hi => cell_set W b _ _ _ _ (h.c0 i hi) _ ?_, fun i hi => cell_set W b _ _ _ _ (h.c1 i hi) _ ?_, fun i hi => cell_set W b _ _ _ _ (h.c2 i hi) _ ?_, fun i hi => cell_set W b _ _ _ _ (h.c3 i hi) _ ?_, fun i hi => cell_set W b _ _ _ _ (h.c4 i hi) _ ?_, fun i hi => cell_set W b _ _ _ _ (h.c5 i hi) _ ?_, fun j => by rw [World.frozen?_setCell]; exact h.fr j⟩
  all_goals
    by_cases e : i = k
    · subst e
      first
        | (rw [if_pos rfl]; simp [upd])
        | (rw [if_neg (by omega)]; simp [upd])
    · rw [if_neg (by omega)]; simp [upd, e]
/-- A device. -/
structure DevAt (W : World) (d b : Nat) (f : Nat → Wd) : Prop where
  s : W.cell? ⟨d, 0, none⟩ = some (.slice (some ⟨b, 0, none⟩) 16 16)
  a : WAt W b 16 f
  ne : d ≠ b
theorem DevAt.up {W W' : World} {d b t : Nat} {f : Nat → Wd} (h : DevAt W d b f) (k : Up t W W') (hd : d ≠ t) (hb : b ≠ t) : DevAt W' d b f :=
  ⟨k.cell h.s hd, h.a.up k hb (by omega), h.ne⟩
theorem DevAt.nw {W W' : World} {d b : Nat} {f : Nat → Wd} (h : DevAt W d b f) (k : Nw W W') : DevAt W' d b f :=
  h.up (t := W.heap.size) (.of_nw k) (Nat.ne_of_lt (cell_lt h.s).1) (Nat.ne_of_lt (cell_lt (h.a.c0 0 (by omega))).1)

set_option maxHeartbeats 1000000 in
theorem at_any (d b : Nat) (f : Nat → Wd) (k : Nat) (hk : k < 16) (w : World) (h : DevAt w d b f) :
    Calls Try.prog 27 #[.pointer (some ⟨d, 0, none⟩), .int .i64 (k : Int)] w fun e w' => e = .returned (.tuple #[.pointer (some ⟨b, k * 6, none⟩), .int .i64 0]) ∧ w = w' := by
  have hs := h.s
  clear h
  go_enter Try.func27, Try.ntmps27
  go_wp2_with fail
  go_ret2
  exact ⟨rfl, rfl⟩
set_option maxHeartbeats 1000000 in
theorem at_nil (k : Int) (w : World) :
    Calls Try.prog 27 #[.pointer none, .int .i64 k] w fun e w' => e = .returned (.tuple #[.pointer none, .int .i64 2]) ∧ w = w' := by
  go_enter Try.func27, Try.ntmps27
  go_wp2_with fail
  go_ret2
  exact ⟨rfl, rfl⟩
def storeW (x : Wd) (v : Int) : Wd := { x with seen := v, loose := true, again := true }
set_option maxHeartbeats 1000000 in
theorem store_any (d b : Nat) (f : Nat → Wd) (k : Nat) (hk : k < 16) (v : Int) (w : World) (h : DevAt w d b f) :
    Calls Try.prog 17 #[.pointer (some ⟨d, 0, none⟩), .int .i64 (k : Int), .int .u64 v] w fun e w' => e = .returned (.int .i64 0) ∧ DevAt w' d b (upd f k (storeW (f k) v)) ∧ Up b w w' := by
  have HC := Lib.hid (at_any d b f k hk w h)
  have HD := Lib.hid h
  have c1 := h.a.c1 k hk
  have c2 := h.a.c2 k hk
  have c4 := h.a.c4 k hk
  have f1 := h.a.fr (k * 6 + 1)
  have f2 := h.a.fr (k * 6 + 2)
  have f4 := h.a.fr (k * 6 + 4)
  clear h
  go_enter Try.func17, Try.ntmps17
  go_wp2_with fail
  refine HC.out.mono ?_
  rintro e w' ⟨rfl, rfl⟩
  go_wp2_with fail
  go_ret
  have u := (((Up.refl b w).set (k * 6 + 1) (.int .u64 v)).set (k * 6 + 2) (.bool true)).set (k * 6 + 4) (.bool true)
  refine ⟨rfl, ⟨u.cell HD.out.s HD.out.ne, ?_, HD.out.ne⟩, u⟩
  have := ((HD.out.a.set1 k hk v).set2 k hk true).set4 k hk true
  simpa only [upd_upd, upd_same, storeW] using this

end Go.Proofs.Ytfjobldfdakfpaa
