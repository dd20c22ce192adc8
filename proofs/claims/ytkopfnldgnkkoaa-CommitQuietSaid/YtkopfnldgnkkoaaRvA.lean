/-
  THE DOCUMENT's DEVICES OF N WORDS: words in memory; New, Store, line.
-/
import Derived.Deep.DeepCutAuto
import Derived.Deep.RegionHeld3
import Derived.Test.YtkopfnldgnkkoaaDvE
namespace Go.Proofs.Ytkopfnldgnkkoaa
open Go.RowKit Go.Shelf
set_option linter.unusedVariables false

/-- n words lie in block b. -/
structure RAt (W : World) (b n : Nat) (f : Nat → Wd) : Prop where
  c0 : ∀ i, i < n → W.cell? ⟨b, i * 6, none⟩ = some (.int .u64 (f i).sure)
  c1 : ∀ i, i < n → W.cell? ⟨b, i * 6 + 1, none⟩ = some (.int .u64 (f i).seen)
  c2 : ∀ i, i < n → W.cell? ⟨b, i * 6 + 2, none⟩ = some (.bool (f i).loose)
  c3 : ∀ i, i < n → W.cell? ⟨b, i * 6 + 3, none⟩ = some (.bool (f i).flushed)
  c4 : ∀ i, i < n → W.cell? ⟨b, i * 6 + 4, none⟩ = some (.int .u64 (f i).value)
  c5 : ∀ i, i < n → W.cell? ⟨b, i * 6 + 5, none⟩ = some (.bool (f i).again)
  ty : Tag W b 125
theorem RAt.up {W W' : World} {b n t : Nat} {f : Nat → Wd} (h : RAt W b n f) (k : Up t W W') (ht : b ≠ t) : RAt W' b n f := by
  exact ⟨fun i hi => k.cell (h.c0 i hi) ht, fun i hi => k.cell (h.c1 i hi) ht, fun i hi => k.cell (h.c2 i hi) ht, fun i hi => k.cell (h.c3 i hi) ht, fun i hi => k.cell (h.c4 i hi) ht, fun i hi => k.cell (h.c5 i hi) ht, h.ty.up k ht⟩
theorem RAt.fr {W : World} {b n : Nat} {f : Nat → Wd} (h : RAt W b n f) (j : Nat) : W.frozen? ⟨b, j, none⟩ = false := h.ty.frozen j
theorem RAt.set0 {W : World} {b n : Nat} {f : Nat → Wd} (h : RAt W b n f) (k : Nat) (hk : k < n) (v : Int) : RAt (W.setCell ⟨b, k * 6, none⟩ (.int .u64 v)) b n (upd f k { f k with sure := v }) := by
  refine ⟨fun i hi => cell_set W b _ _ _ _ (h.c0 i hi) _ ?_, fun i hi => cell_set W b _ _ _ _ (h.c1 i hi) _ ?_, fun i hi => cell_set W b _ _ _ _ (h.c2 i hi) _ ?_, fun i hi => cell_set W b _ _ _ _ (h.c3 i hi) _ ?_, fun i hi => cell_set W b _ _ _ _ (h.c4 i hi) _ ?_, fun i hi => cell_set W b _ _ _ _ (h.c5 i hi) _ ?_, h.ty.set _ _ _⟩
  all_goals
    by_cases e : i = k
    · subst e
      first
        | (rw [if_pos rfl]; simp [upd])
        | (rw [if_neg (by omega)]; simp [upd])
    · rw [if_neg (by omega)]; simp [upd, e]
theorem RAt.set1 {W : World} {b n : Nat} {f : Nat → Wd} (h : RAt W b n f) (k : Nat) (hk : k < n) (v : Int) : RAt (W.setCell ⟨b, k * 6 + 1, none⟩ (.int .u64 v)) b n (upd f k { f k with seen := v }) := by
  refine ⟨fun i hi => cell_set W b _ _ _ _ (h.c0 i hi) _ ?_, fun i hi => cell_set W b _ _ _ _ (h.c1 i hi) _ ?_, fun i hi => cell_set W b _ _ _ _ (h.c2 i hi) _ ?_, fun i hi => cell_set W b _ _ _ _ (h.c3 i hi) _ ?_, fun i hi => cell_set W b _ _ _ _ (h.c4 i hi) _ ?_, fun i hi => cell_set W b _ _ _ _ (h.c5 i hi) _ ?_, h.ty.set _ _ _⟩
  all_goals
    by_cases e : i = k
    · subst e
      first
        | (rw [if_pos rfl]; simp [upd])
        | (rw [if_neg (by omega)]; simp [upd])
    · rw [if_neg (by omega)]; simp [upd, e]
theorem RAt.set2 {W : World} {b n : Nat} {f : Nat → Wd} (h : RAt W b n f) (k : Nat) (hk : k < n) (v : Bool) : RAt (W.setCell ⟨b, k * 6 + 2, none⟩ (.bool v)) b n (upd f k { f k with loose := v }) := by
  refine ⟨fun i hi => cell_set W b _ _ _ _ (h.c0 i hi) _ ?_, fun i hi => cell_set W b _ _ _ _ (h.c1 i hi) _ ?_, fun i hi => cell_set W b _ _ _ _ (h.c2 i hi) _ ?_, fun i hi => cell_set W b _ _ _ _ (h.c3 i hi) _ ?_, fun i hi => cell_set W b _ _ _ _ (h.c4 i hi) _ ?_, fun i hi => cell_set W b _ _ _ _ (h.c5 i hi) _ ?_, h.ty.set _ _ _⟩
  all_goals
    by_cases e : i = k
    · subst e
      first
        | (rw [if_pos rfl]; simp [upd])
        | (rw [if_neg (by omega)]; simp [upd])
    · rw [if_neg (by omega)]; simp [upd, e]
theorem RAt.set3 {W : World} {b n : Nat} {f : Nat → Wd} (h : RAt W b n f) (k : Nat) (hk : k < n) (v : Bool) : RAt (W.setCell ⟨b, k * 6 + 3, none⟩ (.bool v)) b n (upd f k { f k with flushed := v }) := by
  refine ⟨fun i hi => cell_set W b _ _ _ _ (h.c0 i hi) _ ?_, fun i hi => cell_set W b _ _ _ _ (h.c1 i hi) _ ?_, fun i hi => cell_set W b _ _ _ _ (h.c2 i hi) _ ?_, fun i hi => cell_set W b _ _ _ _ (h.c3 i hi) _ ?_, fun i hi => cell_set W b _ _ _ _ (h.c4 i hi) _ ?_, fun i hi => cell_set W b _ _ _ _ (h.c5 i hi) _ ?_, h.ty.set _ _ _⟩
  all_goals
    by_cases e : i = k
    · subst e
      first
        | (rw [if_pos rfl]; simp [upd])
        | (rw [if_neg (by omega)]; simp [upd])
    · rw [if_neg (by omega)]; simp [upd, e]
theorem RAt.set4 {W : World} {b n : Nat} {f : Nat → Wd} (h : RAt W b n f) (k : Nat) (hk : k < n) (v : Int) : RAt (W.setCell ⟨b, k * 6 + 4, none⟩ (.int .u64 v)) b n (upd f k { f k with value := v }) := by
  refine ⟨fun i hi => cell_set W b _ _ _ _ (h.c0 i hi) _ ?_, fun i hi => cell_set W b _ _ _ _ (h.c1 i hi) _ ?_, fun i hi => cell_set W b _ _ _ _ (h.c2 i hi) _ ?_, fun i hi => cell_set W b _ _ _ _ (h.c3 i hi) _ ?_, fun i hi => cell_set W b _ _ _ _ (h.c4 i hi) _ ?_, fun i hi => cell_set W b _ _ _ _ (h.c5 i hi) _ ?_, h.ty.set _ _ _⟩
  all_goals
    by_cases e : i = k
    · subst e
      first
        | (rw [if_pos rfl]; simp [upd])
        | (rw [if_neg (by omega)]; simp [upd])
    · rw [if_neg (by omega)]; simp [upd, e]
theorem RAt.set5 {W : World} {b n : Nat} {f : Nat → Wd} (h : RAt W b n f) (k : Nat) (hk : k < n) (v : Bool) : RAt (W.setCell ⟨b, k * 6 + 5, none⟩ (.bool v)) b n (upd f k { f k with again := v }) := by
  refine ⟨fun i hi => cell_set W b _ _ _ _ (h.c0 i hi) _ ?_, fun i hi => cell_set W b _ _ _ _ (h.c1 i hi) _ ?_, fun i hi => cell_set W b _ _ _ _ (h.c2 i hi) _ ?_, fun i hi => cell_set W b _ _ _ _ (h.c3 i hi) _ ?_, fun i hi => cell_set W b _ _ _ _ (h.c4 i hi) _ ?_, fun i hi => cell_set W b _ _ _ _ (h.c5 i hi) _ ?_, h.ty.set _ _ _⟩
  all_goals
    by_cases e : i = k
    · subst e
      first
        | (rw [if_pos rfl]; simp [upd])
        | (rw [if_neg (by omega)]; simp [upd])
    · rw [if_neg (by omega)]; simp [upd, e]
/-- A device of the document's. -/
structure RevAt (W : World) (d b N : Nat) (f : Nat → Wd) : Prop where
  k : Blk W d #[.slice (some ⟨b, 0, none⟩) N N] 123
  a : RAt W b N f
  pos : 8 ≤ N
  le : N ≤ 65536
  by8 : N % 8 = 0
theorem RevAt.s {W : World} {d b N : Nat} {f : Nat → Wd} (h : RevAt W d b N f) : W.cell? ⟨d, 0, none⟩ = some (.slice (some ⟨b, 0, none⟩) N N) := h.k.cell rfl
theorem RevAt.ne {W : World} {d b N : Nat} {f : Nat → Wd} (h : RevAt W d b N f) : d ≠ b := h.k.tag.ne h.a.ty (by decide)
theorem RevAt.dlt {W : World} {d b N : Nat} {f : Nat → Wd} (h : RevAt W d b N f) : d < W.heap.size := h.k.lt
theorem RevAt.blt {W : World} {d b N : Nat} {f : Nat → Wd} (h : RevAt W d b N f) : b < W.heap.size := h.a.ty.lt
theorem RevAt.up {W W' : World} {d b N t : Nat} {f : Nat → Wd} (h : RevAt W d b N f) (k : Up t W W') (hd : d ≠ t) (hb : b ≠ t) : RevAt W' d b N f :=
  ⟨h.k.up k hd, h.a.up k hb, h.pos, h.le, h.by8⟩
theorem RevAt.nw {W W' : World} {d b N : Nat} {f : Nat → Wd} (h : RevAt W d b N f) (k : Nw W W') : RevAt W' d b N f :=
  h.up (t := W.heap.size) (.of_nw k) (Nat.ne_of_lt h.dlt) (Nat.ne_of_lt h.blt)
theorem RAt.upo {O : Nat → Prop} {W W' : World} {b n : Nat} {f : Nat → Wd} (h : RAt W b n f) (k : UpO O W W') (hb : ¬ O b) : RAt W' b n f :=
  ⟨fun i hi => k.cell (h.c0 i hi) hb, fun i hi => k.cell (h.c1 i hi) hb, fun i hi => k.cell (h.c2 i hi) hb, fun i hi => k.cell (h.c3 i hi) hb, fun i hi => k.cell (h.c4 i hi) hb, fun i hi => k.cell (h.c5 i hi) hb, k.tag h.ty hb⟩
theorem RevAt.upo {O : Nat → Prop} {W W' : World} {d b N : Nat} {f : Nat → Wd} (h : RevAt W d b N f) (k : UpO O W W') (hd : ¬ O d) (hb : ¬ O b) : RevAt W' d b N f :=
  ⟨k.blk h.k hd, h.a.upo k hb, h.pos, h.le, h.by8⟩

theorem RAt.congr {W : World} {b n : Nat} {f g : Nat → Wd} (h : RAt W b n f) (e : ∀ i, i < n → f i = g i) : RAt W b n g :=
  ⟨fun i hi => by rw [← e i hi]; exact h.c0 i hi, fun i hi => by rw [← e i hi]; exact h.c1 i hi, fun i hi => by rw [← e i hi]; exact h.c2 i hi, fun i hi => by rw [← e i hi]; exact h.c3 i hi, fun i hi => by rw [← e i hi]; exact h.c4 i hi, fun i hi => by rw [← e i hi]; exact h.c5 i hi, h.ty⟩
theorem RevAt.congr {W : World} {d b N : Nat} {f g : Nat → Wd} (h : RevAt W d b N f) (e : ∀ i, i < N → f i = g i) : RevAt W d b N g := ⟨h.k, h.a.congr e, h.pos, h.le, h.by8⟩
/-- What a new device of the document's tells. -/
def rzeroCells (N : Nat) : Array Value := madeCells (Value.agg #[.int .u64 0, .int .u64 0, .bool false, .bool false, .int .u64 0, .bool false]).cells (N * 6)
theorem rzero_get (N j : Nat) (hj : j < N * 6) : (rzeroCells N)[j]? = (#[Value.int .u64 0, .int .u64 0, .bool false, .bool false, .int .u64 0, .bool false])[j % 6]? := by
  unfold rzeroCells madeCells
  simp [Value.cells, hj]
  rw [List.getElem?_eq_getElem (by simp only [List.length_cons, List.length_nil]; omega)]
  rfl
theorem rmade_at (w : World) (N : Nat) : RAt (w.alloc (.cells (rzeroCells N) 125)) w.heap.size N (fun _ => zeroW) := by
  have hg : ∀ j, j < N * 6 → (w.alloc (.cells (rzeroCells N) 125)).cell? ⟨w.heap.size, j, none⟩ = (#[Value.int .u64 0, .int .u64 0, .bool false, .bool false, .int .u64 0, .bool false])[j % 6]? := fun j hj => by
    rw [World.cell?_alloc_new]; exact rzero_get N j hj
  refine ⟨fun i hi => ?_, fun i hi => ?_, fun i hi => ?_, fun i hi => ?_, fun i hi => ?_, fun i hi => ?_, (Blk.new w _ _).tag⟩
  · rw [hg _ (by omega), show i * 6 % 6 = 0 by omega]; rfl
  · rw [hg _ (by omega), show (i * 6 + 1) % 6 = 1 by omega]; rfl
  · rw [hg _ (by omega), show (i * 6 + 2) % 6 = 2 by omega]; rfl
  · rw [hg _ (by omega), show (i * 6 + 3) % 6 = 3 by omega]; rfl
  · rw [hg _ (by omega), show (i * 6 + 4) % 6 = 4 by omega]; rfl
  · rw [hg _ (by omega), show (i * 6 + 5) % 6 = 5 by omega]; rfl
theorem info_rword : (Try.prog.info? 125).map (fun i => (i.zero, i.size, i.bytes)) = some (some (.agg #[.int .u64 0, .int .u64 0, .bool false, .bool false, .int .u64 0, .bool false]), 6, 40) := by kernel_rfl
def NewR (N : Nat) (w : World) (e : Ending) (w' : World) : Prop := ∃ d b, e = .returned (.tuple #[.pointer (some ⟨d, 0, none⟩), .int .i64 0]) ∧ RevAt w' d b N (fun _ => zeroW) ∧ Nw w w' ∧ w.heap.size ≤ b ∧ w.heap.size ≤ d
set_option maxRecDepth 100000 in
set_option maxHeartbeats 2000000 in
theorem rnewd_yes (N : Nat) (h8 : 8 ≤ N) (hle : N ≤ 65536) (hb8 : N % 8 = 0) (w : World) : Calls Try.prog 31 #[.int .i64 (N : Int)] w (NewR N w) := by
  obtain ⟨i0, hi, hz0, hz1, hz2⟩ := info_parts8 info_rword
  have hmk := run_make (P := Try.prog) w 121 125 i0 _ Try.underlying121 hi hz0 .i64 .i64 (N : Int) (N : Int) (by omega) (by omega) (by rw [hz2]; omega) (by omega)
  rw [hz1] at hmk
  have HM := Lib.hid (rmade_at w N)
  have hmk2 : (Instr.makeSlice 121 (.int .i64 (N : Int)) (.int .i64 (N : Int))).run Try.prog w = .ok (.slice (some ⟨w.heap.size, 0, none⟩) N N) (w.alloc (.cells (rzeroCells N) 125)) := by simpa [rzeroCells] using hmk
  clear hmk
  have HB8 := Lib.hid hb8
  have hb9 : (N : Int) % 8 = 0 := by omega
  clear hb8
  go_enter Try.func31, Try.ntmps31
  go_wp2_with fail
  go_ret2
  have hN : Nw (w.alloc (.cells (rzeroCells N) 125)) ((w.alloc (.cells (rzeroCells N) 125)).alloc (.cells #[.slice (some ⟨w.heap.size, 0, none⟩) N N] 123)) := Nw.refl.alloc _
  refine ⟨w.heap.size + 1, w.heap.size, rfl, ⟨?_, HM.out.up (t := w.heap.size + 1) (.of_nw hN) (by omega), h8, hle, HB8.out⟩, (Nw.refl.alloc _).alloc _, Nat.le_refl _, by omega⟩
  have := Blk.new (w.alloc (.cells (rzeroCells N) 125)) #[.slice (some ⟨w.heap.size, 0, none⟩) N N] 123
  rwa [World.size_alloc] at this

/-- A device of the document's from one moment to the next. -/
def RevG (w : World) (d b N : Nat) (g : Nat → Wd) (e : Ending) (w' : World) : Prop := e = .returned (.int .i64 0) ∧ RevAt w' d b N g ∧ Up b w w'
set_option maxHeartbeats 2000000 in
theorem rstore_any (d b N : Nat) (f : Nat → Wd) (k : Nat) (hk : k < N) (v : Int) (w : World) (h : RevAt w d b N f) :
    Calls Try.prog 33 #[.pointer (some ⟨d, 0, none⟩), .int .i64 (k : Int), .int .u64 v] w (RevG w d b N (upd f k (storeW (f k) v))) := by
  have hle := h.le
  have HD := Lib.hid h
  have hs := h.s
  have c1 := h.a.c1 k hk
  have f1 := h.a.fr (k * 6 + 1)
  have u1 := (Up.refl b w).set (k * 6 + 1) (.int .u64 v)
  have A1 := h.a.set1 k hk v
  have s1 := u1.cell h.s h.ne
  have hne := h.ne
  clear h
  go_enter Try.func33, Try.ntmps33
  go_upto_region 4 with fail
  clear c1 f1 hs
  generalize w.setCell ⟨b, k * 6 + 1, none⟩ (.int .u64 v) = w1 at *
  have c2 := A1.c2 k hk
  have f2 := A1.fr (k * 6 + 2)
  have u2 := u1.set (k * 6 + 2) (.bool true)
  have A2 := A1.set2 k hk true
  have s2 := (((Up.refl b w1).set (k * 6 + 2) (.bool true))).cell s1 hne
  have HU := Lib.hid u2
  have HA := Lib.hid A2
  clear u1 A1 u2 A2
  go_upto_region 5 with fail
  clear c2 f2 s1
  generalize w1.setCell ⟨b, k * 6 + 2, none⟩ (.bool true) = w2 at *
  have c5 := HA.out.c5 k hk
  have f5 := HA.out.fr (k * 6 + 5)
  go_wp2_with fail
  go_ret
  have u := HU.out.set (k * 6 + 5) (.bool true)
  refine ⟨rfl, ⟨HD.out.k.up u hne, ?_, HD.out.pos, HD.out.le, HD.out.by8⟩, u⟩
  have := HA.out.set5 k hk true
  simpa only [upd_upd, upd_same, storeW] using this
set_option maxHeartbeats 1000000 in
theorem rstore_out (d b N : Nat) (f : Nat → Wd) (k : Int) (hk : k < 0 ∨ (N : Int) ≤ k) (v : Int) (w : World) (h : RevAt w d b N f) :
    Calls Try.prog 33 #[.pointer (some ⟨d, 0, none⟩), .int .i64 k, .int .u64 v] w fun e w' => e = .returned (.int .i64 8) ∧ w = w' := by
  have hs := h.s
  have hle := h.le
  clear h
  by_cases h0 : k < 0
  · go_enter Try.func33, Try.ntmps33
    go_wp2_with fail
    go_ret
    exact ⟨rfl, rfl⟩
  · have h1 : (N : Int) ≤ k := by omega
    go_enter Try.func33, Try.ntmps33
    go_wp2_with fail
    go_ret
    exact ⟨rfl, rfl⟩
set_option maxHeartbeats 1000000 in
theorem rline_any (d b N : Nat) (f : Nat → Wd) (k : Int) (w : World) (h : RevAt w d b N f) :
    Calls Try.prog 66 #[.pointer (some ⟨d, 0, none⟩), .int .i64 k] w fun e w' => e = .returned (.bool (decide (0 ≤ k ∧ k < (N / 8 : Nat)))) ∧ w = w' := by
  have hs := h.s
  have hle := h.le
  clear h
  by_cases h0 : k < 0
  · have HX := Lib.hid (show decide (0 ≤ k ∧ k < (N / 8 : Nat)) = false from decide_eq_false (by omega))
    rw [HX.out]
    go_enter Try.func66, Try.ntmps66
    go_wp2_with fail
    go_ret
    exact ⟨rfl, rfl⟩
  · by_cases h1 : k < (N : Int) / 8
    · have HX := Lib.hid (show decide (0 ≤ k ∧ k < (N / 8 : Nat)) = true from decide_eq_true (by omega))
      rw [HX.out]
      go_enter Try.func66, Try.ntmps66
      go_wp2_with fail
      go_ret
      exact ⟨rfl, rfl⟩
    · have HX := Lib.hid (show decide (0 ≤ k ∧ k < (N / 8 : Nat)) = false from decide_eq_false (by omega))
      rw [HX.out]
      go_enter Try.func66, Try.ntmps66
      go_wp2_with fail
      go_ret
      exact ⟨rfl, rfl⟩

end Go.Proofs.Ytkopfnldgnkkoaa
