import Derived.Deep.DeepCutAuto
import Derived.Deep.RegionHeld3
import Derived.Test.YtkopfnldgnkkoaaGreatDvE
import Derived.Test.YtkopfnldgnkkoaaGreatRdC
import Derived.Test.YtkopfnldgnkkoaaGreatDvH

/-
  THE DOCUMENT's DEVICES OF N WORDS: words in memory; New, Store, line.
-/
namespace Go.Proofs.YtkopfnldgnkkoaaGreat
open Go.RowKit Go.Shelf
set_option linter.unusedVariables false

/-- n words lie in block b. -/
structure RAt (W : World) (b n : Nat) (f : Nat → Wd) : Prop where
  c0 : ∀ i, i < n → W.cell? ⟨b, i * 6, none⟩ = some (.int .u64 (f i).sure)
  c1 : ∀ i, i < n → W.cell? ⟨b, i * 6 + 1, none⟩ = some (.int .u64 (f i).seen)
  c2 : ∀ i, i < n → W.cell? ⟨b, i * 6 + 2, none⟩ = some (.bool (f i).loose)
  c3 : ∀ i, i < n → W.cell? ⟨b, i * 6 + 3, none⟩ = some (.bool (f i).flushed)
  c4 : ∀ i, i < n → W.cell? ⟨b, i * 6 + 4, none⟩ = some (.int .u64 (f i).value)
  c5 : ∀ i, i < n → W.cell? ⟨b, i * 6 + 5, none⟩ = some (.bool (f i).again)
  ty : Tag W b 132
theorem RAt.up {W W' : World} {b n t : Nat} {f : Nat → Wd} (h : RAt W b n f) (k : Up t W W') (ht : b ≠ t) : RAt W' b n f := by
  exact ⟨fun i hi => k.cell (h.c0 i hi) ht, fun i hi => k.cell (h.c1 i hi) ht, fun i hi => k.cell (h.c2 i hi) ht, fun i hi => k.cell (h.c3 i hi) ht, fun i hi => k.cell (h.c4 i hi) ht, fun i hi => k.cell (h.c5 i hi) ht, h.ty.up k ht⟩
theorem RAt.fr {W : World} {b n : Nat} {f : Nat → Wd} (h : RAt W b n f) (j : Nat) : W.frozen? ⟨b, j, none⟩ = false := h.ty.frozen j
theorem RAt.set0 {W : World} {b n : Nat} {f : Nat → Wd} (h : RAt W b n f) (k : Nat) (hk : k < n) (v : Int) : RAt (W.setCell ⟨b, k * 6, none⟩ (.int .u64 v)) b n (upd f k { f k with sure := v }) := by
  refine ⟨fun i hi => cell_set W b _ _ _ _ (h.c0 i hi) _ ?_, fun i hi => cell_set W b _ _ _ _ (h.c1 i hi) _ ?_, fun i hi => cell_set W b _ _ _ _ (h.c2 i hi) _ ?_, fun i hi => cell_set W b _ _ _ _ (h.c3 i hi) _ ?_, fun i hi => cell_set W b _ _ _ _ (h.c4 i hi) _ ?_, fun i hi => cell_set W b _ _ _ _ (h.c5 i hi) _ ?_, h.ty.set _ _ _⟩
  all_goals
    by_cases e : i = k
    · subst e
      first
        | (rw [if_pos rfl]; simp [upd])
        | (rw [if_neg (by omega)]; simp [upd])
    · rw [if_neg (by omega)]; simp [upd, e]
theorem RAt.set1 {W : World} {b n : Nat} {f : Nat → Wd} (h : RAt W b n f) (k : Nat) (hk : k < n) (v : Int) : RAt (W.setCell ⟨b, k * 6 + 1, none⟩ (.int .u64 v)) b n (upd f k { f k with seen := v }) := by
  refine ⟨fun i hi => cell_set W b _ _ _ _ (h.c0 i hi) _ ?_, fun i hi => cell_set W b _ _ _ _ (h.c1 i hi) _ ?_, fun i hi => cell_set W b _ _ _ _ (h.c2 i hi) _ ?_, fun i hi => cell_set W b _ _ _ _ (h.c3 i hi) _ ?_, fun i hi => cell_set W b _ _ _ _ (h.c4 i hi) _ ?_, fun i hi => cell_set W b _ _ _ _ (h.c5 i hi) _ ?_, h.ty.set _ _ _⟩
  all_goals
    by_cases e : i = k
    · subst e
      first
        | (rw [if_pos rfl]; simp [upd])
        | (rw [if_neg (by omega)]; simp [upd])
    · rw [if_neg (by omega)]; simp [upd, e]
theorem RAt.set2 {W : World} {b n : Nat} {f : Nat → Wd} (h : RAt W b n f) (k : Nat) (hk : k < n) (v : Bool) : RAt (W.setCell ⟨b, k * 6 + 2, none⟩ (.bool v)) b n (upd f k { f k with loose := v }) := by
  refine ⟨fun i hi => cell_set W b _ _ _ _ (h.c0 i hi) _ ?_, fun i hi => cell_set W b _ _ _ _ (h.c1 i hi) _ ?_, fun i hi => cell_set W b _ _ _ _ (h.c2 i hi) _ ?_, fun i hi => cell_set W b _ _ _ _ (h.c3 i hi) _ ?_, fun i hi => cell_set W b _ _ _ _ (h.c4 i hi) _ ?_, fun i hi => cell_set W b _ _ _ _ (h.c5 i hi) _ ?_, h.ty.set _ _ _⟩
  all_goals
    by_cases e : i = k
    · subst e
      first
        | (rw [if_pos rfl]; simp [upd])
        | (rw [if_neg (by omega)]; simp [upd])
    · rw [if_neg (by omega)]; simp [upd, e]
theorem RAt.set3 {W : World} {b n : Nat} {f : Nat → Wd} (h : RAt W b n f) (k : Nat) (hk : k < n) (v : Bool) : RAt (W.setCell ⟨b, k * 6 + 3, none⟩ (.bool v)) b n (upd f k { f k with flushed := v }) := by
  refine ⟨fun i hi => cell_set W b _ _ _ _ (h.c0 i hi) _ ?_, fun i hi => cell_set W b _ _ _ _ (h.c1 i hi) _ ?_, fun i hi => cell_set W b _ _ _ _ (h.c2 i hi) _ ?_, fun i hi => cell_set W b _ _ _ _ (h.c3 i hi) _ ?_, fun i hi => cell_set W b _ _ _ _ (h.c4 i hi) _ ?_, fun i hi => cell_set W b _ _ _ _ (h.c5 i hi) _ ?_, h.ty.set _ _ _⟩
  all_goals
    by_cases e : i = k
    · subst e
      first
        | (rw [if_pos rfl]; simp [upd])
        | (rw [if_neg (by omega)]; simp [upd])
    · rw [if_neg (by omega)]; simp [upd, e]
theorem RAt.set4 {W : World} {b n : Nat} {f : Nat → Wd} (h : RAt W b n f) (k : Nat) (hk : k < n) (v : Int) : RAt (W.setCell ⟨b, k * 6 + 4, none⟩ (.int .u64 v)) b n (upd f k { f k with value := v }) := by
  refine ⟨fun i hi => cell_set W b _ _ _ _ (h.c0 i hi) _ ?_, fun i hi => cell_set W b _ _ _ _ (h.c1 i hi) _ ?_, fun i hi => cell_set W b _ _ _ _ (h.c2 i hi) _ ?_, fun i hi => cell_set W b _ _ _ _ (h.c3 i hi) _ ?_, fun i hi => cell_set W b _ _ _ _ (h.c4 i hi) _ ?_, fun i hi => cell_set W b _ _ _ _ (h.c5 i hi) _ ?_, h.ty.set _ _ _⟩
  all_goals
    by_cases e : i = k
    · subst e
      first
        | (rw [if_pos rfl]; simp [upd])
        | (rw [if_neg (by omega)]; simp [upd])
    · rw [if_neg (by omega)]; simp [upd, e]
theorem RAt.set5 {W : World} {b n : Nat} {f : Nat → Wd} (h : RAt W b n f) (k : Nat) (hk : k < n) (v : Bool) : RAt (W.setCell ⟨b, k * 6 + 5, none⟩ (.bool v)) b n (upd f k { f k with again := v }) := by
  refine ⟨fun i hi => cell_set W b _ _ _ _ (h.c0 i hi) _ ?_, fun i hi => cell_set W b _ _ _ _ (h.c1 i hi) _ ?_, fun i hi => cell_set W b _ _ _ _ (h.c2 i hi) _ ?_, fun i hi => cell_set W b _ _ _ _ (h.c3 i hi) _ ?_, fun i hi => cell_set W b _ _ _ _ (h.c4 i hi) _ ?_, fun i hi => cell_set W b _ _ _ _ (h.c5 i hi) _ ?_, h.ty.set _ _ _⟩
  all_goals
    by_cases e : i = k
    · subst e
      first
        | (rw [if_pos rfl]; simp [upd])
        | (rw [if_neg (by omega)]; simp [upd])
    · rw [if_neg (by omega)]; simp [upd, e]
/-- A device of the document's. -/
structure RevAt (W : World) (d b N : Nat) (f : Nat → Wd) : Prop where
  k : Blk W d #[.slice (some ⟨b, 0, none⟩) N N] 101
  a : RAt W b N f
  pos : 8 ≤ N
  le : N ≤ 65536
  by8 : N % 8 = 0
theorem RevAt.s {W : World} {d b N : Nat} {f : Nat → Wd} (h : RevAt W d b N f) : W.cell? ⟨d, 0, none⟩ = some (.slice (some ⟨b, 0, none⟩) N N) := h.k.cell rfl
theorem RevAt.ne {W : World} {d b N : Nat} {f : Nat → Wd} (h : RevAt W d b N f) : d ≠ b := h.k.tag.ne h.a.ty (by decide)
theorem RevAt.dlt {W : World} {d b N : Nat} {f : Nat → Wd} (h : RevAt W d b N f) : d < W.heap.size := h.k.lt
theorem RevAt.blt {W : World} {d b N : Nat} {f : Nat → Wd} (h : RevAt W d b N f) : b < W.heap.size := h.a.ty.lt
theorem RevAt.up {W W' : World} {d b N t : Nat} {f : Nat → Wd} (h : RevAt W d b N f) (k : Up t W W') (hd : d ≠ t) (hb : b ≠ t) : RevAt W' d b N f :=
  ⟨h.k.up k hd, h.a.up k hb, h.pos, h.le, h.by8⟩
theorem RevAt.nw {W W' : World} {d b N : Nat} {f : Nat → Wd} (h : RevAt W d b N f) (k : Nw W W') : RevAt W' d b N f :=
  h.up (t := W.heap.size) (.of_nw k) (Nat.ne_of_lt h.dlt) (Nat.ne_of_lt h.blt)
theorem RAt.upo {O : Nat → Prop} {W W' : World} {b n : Nat} {f : Nat → Wd} (h : RAt W b n f) (k : UpO O W W') (hb : ¬ O b) : RAt W' b n f :=
  ⟨fun i hi => k.cell (h.c0 i hi) hb, fun i hi => k.cell (h.c1 i hi) hb, fun i hi => k.cell (h.c2 i hi) hb, fun i hi => k.cell (h.c3 i hi) hb, fun i hi => k.cell (h.c4 i hi) hb, fun i hi => k.cell (h.c5 i hi) hb, k.tag h.ty hb⟩
theorem RevAt.upo {O : Nat → Prop} {W W' : World} {d b N : Nat} {f : Nat → Wd} (h : RevAt W d b N f) (k : UpO O W W') (hd : ¬ O d) (hb : ¬ O b) : RevAt W' d b N f :=
  ⟨k.blk h.k hd, h.a.upo k hb, h.pos, h.le, h.by8⟩

theorem RAt.congr {W : World} {b n : Nat} {f g : Nat → Wd} (h : RAt W b n f) (e : ∀ i, i < n → f i = g i) : RAt W b n g :=
  ⟨fun i hi => by rw [← e i hi]; exact h.c0 i hi, fun i hi => by rw [← e i hi]; exact h.c1 i hi, fun i hi => by rw [← e i hi]; exact h.c2 i hi, fun i hi => by rw [← e i hi]; exact h.c3 i hi, fun i hi => by rw [← e i hi]; exact h.c4 i hi, fun i hi => by rw [← e i hi]; exact h.c5 i hi, h.ty⟩
theorem RevAt.congr {W : World} {d b N : Nat} {f g : Nat → Wd} (h : RevAt W d b N f) (e : ∀ i, i < N → f i = g i) : RevAt W d b N g := ⟨h.k, h.a.congr e, h.pos, h.le, h.by8⟩
/-- What a new device of the document's tells. -/
def rzeroCells (N : Nat) : Array Value := madeCells (Value.agg #[.int .u64 0, .int .u64 0, .bool false, .bool false, .int .u64 0, .bool false]).cells (N * 6)
theorem rzero_get (N j : Nat) (hj : j < N * 6) : (rzeroCells N)[j]? = (#[Value.int .u64 0, .int .u64 0, .bool false, .bool false, .int .u64 0, .bool false])[j % 6]? := by
  unfold rzeroCells madeCells
  simp [Value.cells, hj]
  rw [List.getElem?_eq_getElem (by simp only [List.length_cons, List.length_nil]; omega)]
  rfl
theorem rmade_at (w : World) (N : Nat) : RAt (w.alloc (.cells (rzeroCells N) 132)) w.heap.size N (fun _ => zeroW) := by
  have hg : ∀ j, j < N * 6 → (w.alloc (.cells (rzeroCells N) 132)).cell? ⟨w.heap.size, j, none⟩ = (#[Value.int .u64 0, .int .u64 0, .bool false, .bool false, .int .u64 0, .bool false])[j % 6]? := fun j hj => by
    rw [World.cell?_alloc_new]; exact rzero_get N j hj
  refine ⟨fun i hi => ?_, fun i hi => ?_, fun i hi => ?_, fun i hi => ?_, fun i hi => ?_, fun i hi => ?_, (Blk.new w _ _).tag⟩
  · rw [hg _ (by omega), show i * 6 % 6 = 0 by omega]; rfl
  · rw [hg _ (by omega), show (i * 6 + 1) % 6 = 1 by omega]; rfl
  · rw [hg _ (by omega), show (i * 6 + 2) % 6 = 2 by omega]; rfl
  · rw [hg _ (by omega), show (i * 6 + 3) % 6 = 3 by omega]; rfl
  · rw [hg _ (by omega), show (i * 6 + 4) % 6 = 4 by omega]; rfl
  · rw [hg _ (by omega), show (i * 6 + 5) % 6 = 5 by omega]; rfl
theorem info_rword : (Tryz.prog.info? 132).map (fun i => (i.zero, i.size, i.bytes)) = some (some (.agg #[.int .u64 0, .int .u64 0, .bool false, .bool false, .int .u64 0, .bool false]), 6, 40) := by kernel_rfl
def NewR (N : Nat) (w : World) (e : Ending) (w' : World) : Prop := ∃ d b, e = .returned (.tuple #[.pointer (some ⟨d, 0, none⟩), .int .i64 0]) ∧ RevAt w' d b N (fun _ => zeroW) ∧ Nw w w' ∧ w.heap.size ≤ b ∧ w.heap.size ≤ d
set_option maxRecDepth 100000 in
set_option maxHeartbeats 2000000 in
theorem rnewd_yes (N : Nat) (h8 : 8 ≤ N) (hle : N ≤ 65536) (hb8 : N % 8 = 0) (w : World) : Calls Tryz.prog 46 #[.int .i64 (N : Int)] w (NewR N w) := by
  obtain ⟨i0, hi, hz0, hz1, hz2⟩ := info_parts8 info_rword
  have hmk := run_make (P := Tryz.prog) w 99 132 i0 _ Tryz.underlying99 hi hz0 .i64 .i64 (N : Int) (N : Int) (by omega) (by omega) (by rw [hz2]; omega) (by omega)
  rw [hz1] at hmk
  have HM := Lib.hid (rmade_at w N)
  have hmk2 : (Instr.makeSlice 99 (.int .i64 (N : Int)) (.int .i64 (N : Int))).run Tryz.prog w = .ok (.slice (some ⟨w.heap.size, 0, none⟩) N N) (w.alloc (.cells (rzeroCells N) 132)) := by simpa [rzeroCells] using hmk
  clear hmk
  have HB8 := Lib.hid hb8
  have hb9 : (N : Int) % 8 = 0 := by omega
  clear hb8
  go_enter Tryz.func46, Tryz.ntmps46
  go_wp2_with fail
  go_ret2
  have hN : Nw (w.alloc (.cells (rzeroCells N) 132)) ((w.alloc (.cells (rzeroCells N) 132)).alloc (.cells #[.slice (some ⟨w.heap.size, 0, none⟩) N N] 101)) := Nw.refl.alloc _
  refine ⟨w.heap.size + 1, w.heap.size, rfl, ⟨?_, HM.out.up (t := w.heap.size + 1) (.of_nw hN) (by omega), h8, hle, HB8.out⟩, (Nw.refl.alloc _).alloc _, Nat.le_refl _, by omega⟩
  have := Blk.new (w.alloc (.cells (rzeroCells N) 132)) #[.slice (some ⟨w.heap.size, 0, none⟩) N N] 101
  rwa [World.size_alloc] at this

/-- A device of the document's from one moment to the next. -/
def RevG (w : World) (d b N : Nat) (g : Nat → Wd) (e : Ending) (w' : World) : Prop := e = .returned (.int .i64 0) ∧ RevAt w' d b N g ∧ Up b w w'
set_option maxHeartbeats 2000000 in
theorem rstore_any (d b N : Nat) (f : Nat → Wd) (k : Nat) (hk : k < N) (v : Int) (w : World) (h : RevAt w d b N f) :
    Calls Tryz.prog 17 #[.pointer (some ⟨d, 0, none⟩), .int .i64 (k : Int), .int .u64 v] w (RevG w d b N (upd f k (storeW (f k) v))) := by
  have hle := h.le
  have HD := Lib.hid h
  have hs := h.s
  have c1 := h.a.c1 k hk
  have f1 := h.a.fr (k * 6 + 1)
  have u1 := (Up.refl b w).set (k * 6 + 1) (.int .u64 v)
  have A1 := h.a.set1 k hk v
  have s1 := u1.cell h.s h.ne
  have hne := h.ne
  clear h
  go_enter Tryz.func17, Tryz.ntmps17
  go_upto_region 4 with fail
  clear c1 f1 hs
  generalize w.setCell ⟨b, k * 6 + 1, none⟩ (.int .u64 v) = w1 at *
  have c2 := A1.c2 k hk
  have f2 := A1.fr (k * 6 + 2)
  have u2 := u1.set (k * 6 + 2) (.bool true)
  have A2 := A1.set2 k hk true
  have s2 := (((Up.refl b w1).set (k * 6 + 2) (.bool true))).cell s1 hne
  have HU := Lib.hid u2
  have HA := Lib.hid A2
  clear u1 A1 u2 A2
  go_upto_region 5 with fail
  clear c2 f2 s1
  generalize w1.setCell ⟨b, k * 6 + 2, none⟩ (.bool true) = w2 at *
  have c5 := HA.out.c5 k hk
  have f5 := HA.out.fr (k * 6 + 5)
  go_wp2_with fail
  go_ret
  have u := HU.out.set (k * 6 + 5) (.bool true)
  refine ⟨rfl, ⟨HD.out.k.up u hne, ?_, HD.out.pos, HD.out.le, HD.out.by8⟩, u⟩
  have := HA.out.set5 k hk true
  simpa only [upd_upd, upd_same, storeW] using this
set_option maxHeartbeats 1000000 in
theorem rstore_out (d b N : Nat) (f : Nat → Wd) (k : Int) (hk : k < 0 ∨ (N : Int) ≤ k) (v : Int) (w : World) (h : RevAt w d b N f) :
    Calls Tryz.prog 17 #[.pointer (some ⟨d, 0, none⟩), .int .i64 k, .int .u64 v] w fun e w' => e = .returned (.int .i64 8) ∧ w = w' := by
  have hs := h.s
  have hle := h.le
  clear h
  by_cases h0 : k < 0
  · go_enter Tryz.func17, Tryz.ntmps17
    go_wp2_with fail
    go_ret
    exact ⟨rfl, rfl⟩
  · have h1 : (N : Int) ≤ k := by omega
    go_enter Tryz.func17, Tryz.ntmps17
    go_wp2_with fail
    go_ret
    exact ⟨rfl, rfl⟩
set_option maxHeartbeats 1000000 in
theorem rline_any (d b N : Nat) (f : Nat → Wd) (k : Int) (w : World) (h : RevAt w d b N f) :
    Calls Tryz.prog 73 #[.pointer (some ⟨d, 0, none⟩), .int .i64 k] w fun e w' => e = .returned (.bool (decide (0 ≤ k ∧ k < (N / 8 : Nat)))) ∧ w = w' := by
  have hs := h.s
  have hle := h.le
  clear h
  by_cases h0 : k < 0
  · have HX := Lib.hid (show decide (0 ≤ k ∧ k < (N / 8 : Nat)) = false from decide_eq_false (by omega))
    rw [HX.out]
    go_enter Tryz.func73, Tryz.ntmps73
    go_wp2_with fail
    go_ret
    exact ⟨rfl, rfl⟩
  · by_cases h1 : k < (N : Int) / 8
    · have HX := Lib.hid (show decide (0 ≤ k ∧ k < (N / 8 : Nat)) = true from decide_eq_true (by omega))
      rw [HX.out]
      go_enter Tryz.func73, Tryz.ntmps73
      go_wp2_with fail
      go_ret
      exact ⟨rfl, rfl⟩
    · have HX := Lib.hid (show decide (0 ≤ k ∧ k < (N / 8 : Nat)) = false from decide_eq_false (by omega))
      rw [HX.out]
      go_enter Tryz.func73, Tryz.ntmps73
      go_wp2_with fail
      go_ret
      exact ⟨rfl, rfl⟩

end Go.Proofs.YtkopfnldgnkkoaaGreat

/-
  THE DOCUMENT's DEVICES OF N WORDS: Evict.
-/
namespace Go.Proofs.YtkopfnldgnkkoaaGreat
open Go.RowKit Go.Shelf
set_option linter.unusedVariables false

/-- What has been done with the words of a line ahead of the j-th word. -/
def partU (i j : Nat) (op : Wd → Wd) (f : Nat → Wd) : Nat → Wd := fun k => if i * 8 ≤ k ∧ k < j ∧ (f k).loose = true then op (f k) else f k
theorem partU_zero (i : Nat) (op : Wd → Wd) (f : Nat → Wd) : partU i (i * 8) op f = f := by
  funext k; unfold partU; rw [if_neg (by omega)]
theorem partU_at (i j : Nat) (op : Wd → Wd) (f : Nat → Wd) : partU i j op f j = f j := by unfold partU; rw [if_neg (by omega)]
theorem partU_skip {i j : Nat} {op : Wd → Wd} {f : Nat → Wd} (h : (f j).loose = false) : partU i (j + 1) op f = partU i j op f := by
  funext k; unfold partU
  by_cases e : k = j
  · subst e; rw [if_neg (by rw [h]; simp), if_neg (by omega)]
  · by_cases c : i * 8 ≤ k ∧ k < j ∧ (f k).loose = true
    · rw [if_pos c, if_pos ⟨c.1, by omega, c.2.2⟩]
    · rw [if_neg c, if_neg (fun cc => c ⟨cc.1, by omega, cc.2.2⟩)]
theorem partU_step {i j : Nat} {op : Wd → Wd} {f : Nat → Wd} (hj : i * 8 ≤ j) (h : (f j).loose = true) : partU i (j + 1) op f = upd (partU i j op f) j (op (f j)) := by
  funext k; unfold upd
  by_cases e : k = j
  · subst e; rw [if_pos rfl]; unfold partU; rw [if_pos ⟨hj, by omega, h⟩]
  · rw [if_neg e]; unfold partU
    by_cases c : i * 8 ≤ k ∧ k < j ∧ (f k).loose = true
    · rw [if_pos c, if_pos ⟨c.1, by omega, c.2.2⟩]
    · rw [if_neg c, if_neg (fun cc => c ⟨cc.1, by omega, cc.2.2⟩)]
theorem partU_all (i : Nat) (op : Wd → Wd) (f : Nat → Wd) : partU i (i * 8 + 8) op f = lineU i op f := by
  funext k; unfold partU lineU
  by_cases h : (f k).loose = true
  · by_cases h2 : k / 8 = i
    · rw [if_pos ⟨by omega, by omega, h⟩, if_pos ⟨h2, h⟩]
    · rw [if_neg (fun hh => h2 (by omega)), if_neg (fun hh => h2 hh.1)]
  · rw [if_neg (fun hh => h hh.2.2), if_neg (fun hh => h hh.2)]

set_option maxRecDepth 100000 in
set_option maxHeartbeats 4000000 in
theorem revict_any (d b N : Nat) (f : Nat → Wd) (i : Nat) (hi : i * 8 < N) (w : World) (h : RevAt w d b N f) :
    Calls Tryz.prog 19 #[.pointer (some ⟨d, 0, none⟩), .int .i64 (i : Int)] w (RevG w d b N (evictU i f)) := by
  have hle := h.le
  have h8 := h.by8
  have HL := Lib.hid (rline_any d b N f (i : Int) w h)
  rw [show decide ((0 : Int) ≤ i ∧ (i : Int) < (N / 8 : Nat)) = true from decide_eq_true (by omega)] at HL
  have HD := Lib.hid h
  clear h
  have hi8 : i * 8 + 8 ≤ N := by omega
  have hi65 : i ≤ 8192 := by omega
  go_enter Tryz.func19, Tryz.ntmps19
  go_wp2_with fail
  refine HL.out.mono ?_
  rintro e w1 ⟨rfl, rfl⟩
  go_wp2_with fail
  go_loopw [5] (fun v wr => ∃ j : Nat, i * 8 ≤ j ∧ j ≤ i * 8 + 8 ∧ v = .int .i64 j ∧ RevAt wr d b N (partU i j evictW f) ∧ Up b w wr) (fun v _ => i * 8 + 8 - (intOf v).toNat)
  case atStart => exact ⟨i * 8, Nat.le_refl _, by omega, by go_num, by rw [partU_zero]; exact HD.out, Up.refl _ _⟩
  case round =>
    obtain ⟨j, hj0, hj1, rfl, hdv, hup⟩ := hrel
    have HDV := Lib.hid hdv
    have HUP := Lib.hid hup
    clear hdv hup
    by_cases hlt : j < i * 8 + 8
    · have hs := HDV.out.s
      have hjN : j < N := by omega
      have c2 := HDV.out.a.c2 j hjN
      rw [partU_at] at c2
      cases hl : (f j).loose
      · rw [hl] at c2
        have HSK := Lib.hid (partU_skip (i := i) (op := evictW) hl)
        clear hl
        go_wp2_with fail
        go_roundw
        case rel => exact ⟨j + 1, by omega, by omega, by go_num, by rw [HSK.out]; exact HDV.out, HUP.out⟩
        case measure => simp [intOf]; omega
      · rw [hl] at c2
        have HST := Lib.hid (partU_step (op := evictW) hj0 hl)
        have HAT := Lib.hid (partU_at i j evictW f)
        clear hl
        obtain ⟨g, hg⟩ : ∃ g, partU i j evictW f = g := ⟨_, rfl⟩
        rw [hg] at HDV HST HAT
        clear hg
        have c0 := HDV.out.a.c0 j hjN
        have c1 := HDV.out.a.c1 j hjN
        have c2 := HDV.out.a.c2 j hjN
        have c3 := HDV.out.a.c3 j hjN
        have c4 := HDV.out.a.c4 j hjN
        have c5 := HDV.out.a.c5 j hjN
        have f0 := HDV.out.a.fr (j * 6)
        have f1 := HDV.out.a.fr (j * 6 + 1)
        have f2 := HDV.out.a.fr (j * 6 + 2)
        have f3 := HDV.out.a.fr (j * 6 + 3)
        have f4 := HDV.out.a.fr (j * 6 + 4)
        have f5 := HDV.out.a.fr (j * 6 + 5)
        have hu6 := ((((((Up.refl b wr).set (j * 6) (.int .u64 (g j).seen)).set (j * 6 + 1) (.int .u64 (g j).seen)).set (j * 6 + 2) (.bool false)).set (j * 6 + 3) (.bool false)).set (j * 6 + 4) (.int .u64 0)).set (j * 6 + 5) (.bool false)
        have ha6 := (((((HDV.out.a.set0 j hjN (g j).seen).set1 j hjN (g j).seen).set2 j hjN false).set3 j hjN false).set4 j hjN 0).set5 j hjN false
        simp only [upd_upd, upd_same] at ha6
        have ha7 : RAt ((((((wr.setCell ⟨b, j * 6, none⟩ (.int .u64 (g j).seen)).setCell ⟨b, j * 6 + 1, none⟩ (.int .u64 (g j).seen)).setCell ⟨b, j * 6 + 2, none⟩ (.bool false)).setCell ⟨b, j * 6 + 3, none⟩ (.bool false)).setCell ⟨b, j * 6 + 4, none⟩ (.int .u64 0)).setCell ⟨b, j * 6 + 5, none⟩ (.bool false)) b N (upd g j (evictW (g j))) := ha6
        clear ha6
        obtain ⟨W6, hW6⟩ : ∃ W6, (((((wr.setCell ⟨b, j * 6, none⟩ (.int .u64 (g j).seen)).setCell ⟨b, j * 6 + 1, none⟩ (.int .u64 (g j).seen)).setCell ⟨b, j * 6 + 2, none⟩ (.bool false)).setCell ⟨b, j * 6 + 3, none⟩ (.bool false)).setCell ⟨b, j * 6 + 4, none⟩ (.int .u64 0)).setCell ⟨b, j * 6 + 5, none⟩ (.bool false) = W6 := ⟨_, rfl⟩
        rw [hW6] at hu6 ha7
        have hc1 := ha7.c1 j hjN
        rw [upd_same] at hc1
        have HC1 : Hid (W6.cell? ⟨b, j * 6 + 1, none⟩ = some (.int .u64 (g j).seen)) := hc1
        have HCS := Lib.hid (hu6.cell hs HDV.out.ne)
        have HU := Lib.hid (hu6.nw Nw.refl.drew)
        have HA := Lib.hid (show RevAt W6.drew d b N (upd g j (evictW (g j))) from ⟨HDV.out.k.up HU.out HDV.out.ne, ha7.up (t := W6.heap.size) (.of_nw Nw.refl.drew) (Nat.ne_of_lt ha7.ty.lt), HDV.out.pos, HDV.out.le, HDV.out.by8⟩)
        have HW6 := Lib.hid hW6
        clear hW6 hu6 ha7 hc1
        go_upto_region 7 with fail
        refine wp_region_noPanic ?_
        refine wp_region_held_drew (S := (fun w' => w'.cell? ⟨d, 0, none⟩ = some (.slice (some ⟨b, 0, none⟩) N N) ∧ w'.cell? ⟨b, j * 6 + 1, none⟩ = some (.int .u64 (g j).seen))) (by kernel_rfl) ?_ (fun hHeld => ?_)
        · exact ⟨hs, c1⟩
        refine takeD (i := 0) (v := ?_) 27 rfl rfl ?_ ?_ ?_ (fun _ _ _ h => h) ?_ (by assumption) ?_
        rotate_left
        · kernel_rfl
        · kernel_rfl
        · kernel_rfl
        · refine Or.inl (And.intro ?_ ?_)
          · rfl
          · intro w hSw
            obtain ⟨hs, c1⟩ := hSw
            first | (go_simp; done) | (go_simp; with_reducible rfl)
        simp only [List.setIfInBounds_toArray, List.set_cons_zero, List.set_cons_succ]
        refine takeD (i := 1) (v := ?_) 28 rfl rfl ?_ ?_ ?_ (fun _ _ _ h => h) ?_ (by assumption) ?_
        rotate_left
        · kernel_rfl
        · kernel_rfl
        · kernel_rfl
        · refine Or.inl (And.intro ?_ ?_)
          · rfl
          · intro w hSw
            obtain ⟨hs, c1⟩ := hSw
            first | (go_simp; done) | (go_simp; with_reducible rfl)
        simp only [List.setIfInBounds_toArray, List.set_cons_zero, List.set_cons_succ]
        refine takeD (i := 2) (v := ?_) 29 rfl rfl ?_ ?_ ?_ (fun _ _ _ h => h) ?_ (by assumption) ?_
        rotate_left
        · kernel_rfl
        · kernel_rfl
        · kernel_rfl
        · refine Or.inl (And.intro ?_ ?_)
          · rfl
          · intro w hSw
            obtain ⟨hs, c1⟩ := hSw
            first | (go_simp; done) | (go_simp; with_reducible rfl)
        simp only [List.setIfInBounds_toArray, List.set_cons_zero, List.set_cons_succ]
        refine takeD (i := 3) (v := ?_) 30 rfl rfl ?_ ?_ ?_ (fun _ _ _ h => h) ?_ (by assumption) ?_
        rotate_left
        · kernel_rfl
        · kernel_rfl
        · kernel_rfl
        · refine Or.inl (And.intro ?_ ?_)
          · rfl
          · intro w hSw
            obtain ⟨hs, c1⟩ := hSw
            first | (go_simp; done) | (go_simp; with_reducible rfl)
        simp only [List.setIfInBounds_toArray, List.set_cons_zero, List.set_cons_succ]
        refine takeD (i := 4) (v := ?_) 31 rfl rfl ?_ ?_ ?_ (fun _ _ _ h => h) ?_ (by assumption) ?_
        rotate_left
        · kernel_rfl
        · kernel_rfl
        · kernel_rfl
        · refine Or.inl (And.intro ?_ ?_)
          · rfl
          · intro w hSw
            obtain ⟨hs, c1⟩ := hSw
            first | (go_simp; done) | (go_simp; with_reducible rfl)
        simp only [List.setIfInBounds_toArray, List.set_cons_zero, List.set_cons_succ]
        refine takeD (i := 5) (v := ?_) 32 rfl rfl ?_ ?_ ?_ (fun _ _ _ h => h) ?_ (by assumption) ?_
        rotate_left
        · kernel_rfl
        · kernel_rfl
        · kernel_rfl
        · refine Or.inl (And.intro ?_ ?_)
          · rfl
          · intro w hSw
            obtain ⟨hs, c1⟩ := hSw
            first | (go_simp; done) | (go_simp; with_reducible rfl)
        simp only [List.setIfInBounds_toArray, List.set_cons_zero, List.set_cons_succ]
        refine takeD (i := 6) (v := ?_) 33 rfl rfl ?_ ?_ ?_ (fun _ _ _ h => h) ?_ (by assumption) ?_
        rotate_left
        · kernel_rfl
        · kernel_rfl
        · kernel_rfl
        · refine Or.inl (And.intro ?_ ?_)
          · rfl
          · intro w hSw
            obtain ⟨hs, c1⟩ := hSw
            first | (go_simp; done) | (go_simp; with_reducible rfl)
        simp only [List.setIfInBounds_toArray, List.set_cons_zero, List.set_cons_succ]
        refine takeD (i := 7) (v := ?_) 34 rfl rfl ?_ ?_ ?_ (fun _ _ _ h => h) ?_ (by assumption) ?_
        rotate_left
        · kernel_rfl
        · kernel_rfl
        · kernel_rfl
        · refine Or.inl (And.intro ?_ ?_)
          · rfl
          · intro w hSw
            obtain ⟨hs, c1⟩ := hSw
            first | (go_simp; done) | (go_simp; with_reducible rfl)
        simp only [List.setIfInBounds_toArray, List.set_cons_zero, List.set_cons_succ]
        refine takeD (i := 8) (v := ?_) 35 rfl rfl ?_ ?_ ?_ (fun _ _ _ h => h) ?_ (by assumption) ?_
        rotate_left
        · kernel_rfl
        · kernel_rfl
        · kernel_rfl
        · refine Or.inl (And.intro ?_ ?_)
          · rfl
          · intro w hSw
            obtain ⟨hs, c1⟩ := hSw
            first | (go_simp; done) | (go_simp; with_reducible rfl)
        simp only [List.setIfInBounds_toArray, List.set_cons_zero, List.set_cons_succ]
        refine takeD (i := 9) (v := ?_) 36 rfl rfl ?_ ?_ ?_ (fun _ _ _ h => h) ?_ (by assumption) ?_
        rotate_left
        · kernel_rfl
        · kernel_rfl
        · kernel_rfl
        · refine Or.inl (And.intro ?_ ?_)
          · rfl
          · intro w hSw
            obtain ⟨hs, c1⟩ := hSw
            first | (go_simp; done) | (go_simp; with_reducible rfl)
        simp only [List.setIfInBounds_toArray, List.set_cons_zero, List.set_cons_succ]
        refine takeD (i := 10) (v := ?_) 37 rfl rfl ?_ ?_ ?_ (fun _ _ _ h => h) ?_ (by assumption) ?_
        rotate_left
        · kernel_rfl
        · kernel_rfl
        · kernel_rfl
        · refine Or.inl (And.intro ?_ ?_)
          · rfl
          · intro w hSw
            obtain ⟨hs, c1⟩ := hSw
            first | (go_simp; done) | (go_simp; with_reducible rfl)
        simp only [List.setIfInBounds_toArray, List.set_cons_zero, List.set_cons_succ]
        refine takeD (i := 11) (v := ?_) 38 rfl rfl ?_ ?_ ?_ (fun _ _ _ h => h) ?_ (by assumption) ?_
        rotate_left
        · kernel_rfl
        · kernel_rfl
        · kernel_rfl
        · refine Or.inl (And.intro ?_ ?_)
          · rfl
          · intro w hSw
            obtain ⟨hs, c1⟩ := hSw
            first | (go_simp; done) | (go_simp; with_reducible rfl)
        simp only [List.setIfInBounds_toArray, List.set_cons_zero, List.set_cons_succ]
        refine takeD (i := 12) (v := ?_) 39 rfl rfl ?_ ?_ ?_ (fun _ _ _ h => h) ?_ (by assumption) ?_
        rotate_left
        · kernel_rfl
        · kernel_rfl
        · kernel_rfl
        · refine Or.inl (And.intro ?_ ?_)
          · rfl
          · intro w hSw
            obtain ⟨hs, c1⟩ := hSw
            first | (go_simp; done) | (go_simp; with_reducible rfl)
        simp only [List.setIfInBounds_toArray, List.set_cons_zero, List.set_cons_succ]
        refine takeD (i := 13) (v := ?_) 40 rfl rfl ?_ ?_ ?_ (fun _ _ _ h => h) ?_ (by assumption) ?_
        rotate_left
        · kernel_rfl
        · kernel_rfl
        · kernel_rfl
        · refine Or.inl (And.intro ?_ ?_)
          · rfl
          · intro w hSw
            obtain ⟨hs, c1⟩ := hSw
            first | (go_simp; done) | (go_simp; with_reducible rfl)
        simp only [List.setIfInBounds_toArray, List.set_cons_zero, List.set_cons_succ]
        refine takeD (i := 14) (v := ?_) 41 rfl rfl ?_ ?_ ?_ (fun _ _ _ h => h) ?_ (by assumption) ?_
        rotate_left
        · kernel_rfl
        · kernel_rfl
        · kernel_rfl
        · refine Or.inl (And.intro ?_ ?_)
          · rfl
          · intro w hSw
            obtain ⟨hs, c1⟩ := hSw
            first | (go_simp; done) | (go_simp; with_reducible rfl)
        simp only [List.setIfInBounds_toArray, List.set_cons_zero, List.set_cons_succ]
        refine takeD (i := 15) (v := ?_) 42 rfl rfl ?_ ?_ ?_ (fun _ _ _ h => h) ?_ (by assumption) ?_
        rotate_left
        · kernel_rfl
        · kernel_rfl
        · kernel_rfl
        · refine Or.inl (And.intro ?_ ?_)
          · rfl
          · intro w hSw
            obtain ⟨hs, c1⟩ := hSw
            first | (go_simp; done) | (go_simp; with_reducible rfl)
        simp only [List.setIfInBounds_toArray, List.set_cons_zero, List.set_cons_succ]
        refine takeD (i := 16) (v := ?_) 43 rfl rfl ?_ ?_ ?_ (fun _ _ _ h => h) ?_ (by assumption) ?_
        rotate_left
        · kernel_rfl
        · kernel_rfl
        · kernel_rfl
        · refine Or.inl (And.intro ?_ ?_)
          · rfl
          · intro w hSw
            obtain ⟨hs, c1⟩ := hSw
            first | (go_simp; done) | (go_simp; with_reducible rfl)
        simp only [List.setIfInBounds_toArray, List.set_cons_zero, List.set_cons_succ]
        refine takeD (i := 17) (v := ?_) 44 rfl rfl ?_ ?_ ?_ (fun _ _ _ h => h) ?_ (by assumption) ?_
        rotate_left
        · kernel_rfl
        · kernel_rfl
        · kernel_rfl
        · refine Or.inl (And.intro ?_ ?_)
          · rfl
          · intro w hSw
            obtain ⟨hs, c1⟩ := hSw
            first | (go_simp; done) | (go_simp; with_reducible rfl)
        simp only [List.setIfInBounds_toArray, List.set_cons_zero, List.set_cons_succ]
        refine takeD (i := 18) (v := ?_) 45 rfl rfl ?_ ?_ ?_ (fun _ _ _ h => h) ?_ (by assumption) ?_
        rotate_left
        · kernel_rfl
        · kernel_rfl
        · kernel_rfl
        · refine Or.inl (And.intro ?_ ?_)
          · rfl
          · intro w hSw
            obtain ⟨hs, c1⟩ := hSw
            first | (go_simp; done) | (go_simp; with_reducible rfl)
        simp only [List.setIfInBounds_toArray, List.set_cons_zero, List.set_cons_succ]
        refine takeD (i := 19) (v := ?_) 46 rfl rfl ?_ ?_ ?_ (fun _ _ _ h => h) ?_ (by assumption) ?_
        rotate_left
        · kernel_rfl
        · kernel_rfl
        · kernel_rfl
        · refine Or.inl (And.intro ?_ ?_)
          · rfl
          · intro w hSw
            obtain ⟨hs, c1⟩ := hSw
            first | (go_simp; done) | (go_simp; with_reducible rfl)
        simp only [List.setIfInBounds_toArray, List.set_cons_zero, List.set_cons_succ]
        refine takeD (i := 20) (v := ?_) 47 rfl rfl ?_ ?_ ?_ (fun _ _ _ h => h) ?_ (by assumption) ?_
        rotate_left
        · kernel_rfl
        · kernel_rfl
        · kernel_rfl
        · refine Or.inl (And.intro ?_ ?_)
          · rfl
          · intro w hSw
            obtain ⟨hs, c1⟩ := hSw
            first | (go_simp; done) | (go_simp; with_reducible rfl)
        simp only [List.setIfInBounds_toArray, List.set_cons_zero, List.set_cons_succ]
        refine takeD (i := 21) (v := ?_) 48 rfl rfl ?_ ?_ ?_ (fun _ _ _ h => h) ?_ (by assumption) ?_
        rotate_left
        · kernel_rfl
        · kernel_rfl
        · kernel_rfl
        · refine Or.inl (And.intro ?_ ?_)
          · rfl
          · intro w hSw
            obtain ⟨hs, c1⟩ := hSw
            first | (go_simp; done) | (go_simp; with_reducible rfl)
        simp only [List.setIfInBounds_toArray, List.set_cons_zero, List.set_cons_succ]
        refine takeD (i := 22) (v := ?_) 49 rfl rfl ?_ ?_ ?_ (fun _ _ _ h => h) ?_ (by assumption) ?_
        rotate_left
        · kernel_rfl
        · kernel_rfl
        · kernel_rfl
        · refine Or.inl (And.intro ?_ ?_)
          · rfl
          · intro w hSw
            obtain ⟨hs, c1⟩ := hSw
            first | (go_simp; done) | (go_simp; with_reducible rfl)
        simp only [List.setIfInBounds_toArray, List.set_cons_zero, List.set_cons_succ]
        refine wpAnyH_ready (rs := [23]) (by kernel_rfl) (by simp) ?_
        refine AllReadyH.cons rfl (fun K hK => ?_) AllReadyH.nil
        go_simp
        refine hK.out _ _ ?_ (fun hHeld2 => ?_)
        · rw [HW6.out]; exact ⟨HCS.out, HC1.out⟩
        clear hK K hHeld
        refine wpAnyH_done (by kernel_rfl) ?_ _
        refine NoPanic.normal ?_
        clear c0 c1 c2 c3 c4 c5 f0 f1 f2 f3 f4 f5 hs
        rw [HW6.out]
        clear HW6
        go_wp2_with fail
        go_roundw
        case rel => exact ⟨j + 1, by omega, by omega, by go_num, by rw [HST.out, ← HAT.out]; exact HA.out, HUP.out.trans HU.out⟩
        case measure => simp [intOf]; omega
    · obtain rfl : j = i * 8 + 8 := by omega
      rw [partU_all] at HDV
      go_wp2_with fail
      go_ret
      exact ⟨rfl, HDV.out, HUP.out⟩

end Go.Proofs.YtkopfnldgnkkoaaGreat

/-
  THE DOCUMENT's DEVICES: Seen, Sure, Flush.
-/
namespace Go.Proofs.YtkopfnldgnkkoaaGreat
open Go.RowKit Go.Shelf
set_option linter.unusedVariables false

set_option maxHeartbeats 2000000 in
theorem rseen_any (d b N : Nat) (f : Nat → Wd) (w : World) (h : RevAt w d b N f) :
    Calls Tryz.prog 30 #[.pointer (some ⟨d, 0, none⟩)] w (OwnU w (rowL (·.seen) f N)) := by
  obtain ⟨i0, hi, hz0, hz1, hz2⟩ := info_parts8 info_u64
  have hle := h.le
  have HD := Lib.hid h
  clear h
  go_enter Tryz.func30, Tryz.ntmps30
  go_wp2_with fail
  go_loopw [4, 3] (fun i v wr => ∃ k : Nat, k ≤ N ∧ i = .int .i64 k ∧ Nw w wr ∧ wr.ownsRow w.heap.size 44 1 v k ((rowL (·.seen) f k).map (.int .u64))) (fun i _ _ => N - (intOf i).toNat)
  case atStart => exact ⟨0, by omega, rfl, Nw.refl, rfl, .inl ⟨rfl, rfl⟩⟩
  case round =>
    obtain ⟨k, hk, rfl, hn, how⟩ := hrel
    have hs := (HD.out.nw hn).s
    by_cases hlt : k < N
    · have hc := (HD.out.nw hn).a.c1 k hlt
      have HN := Lib.hid hn
      have HOW := Lib.hid how
      have HR := Lib.hid (rowL_succ (·.seen) f k)
      have hs1 := hn.b.size
      generalize (f k).seen = v at *
      clear hn how
      go_wp2_with (first | (at_builtin; refine wpList_append_ints _ rfl (.tmp 14) (.tmp 23) 33 rfl w.heap.size 44 i0 (.int .u64 0) 8 Tryz.underlying33 hi hz0 hz1 hz2 rfl _ _ _ rfl (HOW.out.alloc _) _ 1 1 .u64 [v] _ rfl rfl (Ints.one _ _ _ _) (by unfold maxLen; omega) (by omega) (by simp; omega) ?_; intro v3 w3 hown3 hgrow3; have hb3 : Below w.heap.size w w3 := Below.grownRow (HN.out.b.alloc hs1 _) hgrow3 (by simp; omega) (HOW.out.alloc _) (Nat.le_refl _); clear hgrow3; rw [← List.map_append] at hown3) | fail)
      go_roundw
      case rel => exact ⟨k + 1, by omega, by go_num, ⟨hb3⟩, by rw [HR.out]; exact hown3⟩
      case measure => simp [intOf]; omega
    · obtain rfl : k = N := by omega
      go_wp2_with fail
      go_ret
      exact ⟨_, rfl, by rw [rowL_length]; exact how, hn⟩
set_option maxHeartbeats 2000000 in
theorem rsure_any (d b N : Nat) (f : Nat → Wd) (w : World) (h : RevAt w d b N f) :
    Calls Tryz.prog 31 #[.pointer (some ⟨d, 0, none⟩)] w (OwnU w (rowL (·.sure) f N)) := by
  obtain ⟨i0, hi, hz0, hz1, hz2⟩ := info_parts8 info_u64
  have hle := h.le
  have HD := Lib.hid h
  clear h
  go_enter Tryz.func31, Tryz.ntmps31
  go_wp2_with fail
  go_loopw [4, 3] (fun i v wr => ∃ k : Nat, k ≤ N ∧ i = .int .i64 k ∧ Nw w wr ∧ wr.ownsRow w.heap.size 44 1 v k ((rowL (·.sure) f k).map (.int .u64))) (fun i _ _ => N - (intOf i).toNat)
  case atStart => exact ⟨0, by omega, rfl, Nw.refl, rfl, .inl ⟨rfl, rfl⟩⟩
  case round =>
    obtain ⟨k, hk, rfl, hn, how⟩ := hrel
    have hs := (HD.out.nw hn).s
    by_cases hlt : k < N
    · have hc := (HD.out.nw hn).a.c0 k hlt
      have HN := Lib.hid hn
      have HOW := Lib.hid how
      have HR := Lib.hid (rowL_succ (·.sure) f k)
      have hs1 := hn.b.size
      generalize (f k).sure = v at *
      clear hn how
      go_wp2_with (first | (at_builtin; refine wpList_append_ints _ rfl (.tmp 14) (.tmp 23) 33 rfl w.heap.size 44 i0 (.int .u64 0) 8 Tryz.underlying33 hi hz0 hz1 hz2 rfl _ _ _ rfl (HOW.out.alloc _) _ 1 1 .u64 [v] _ rfl rfl (Ints.one _ _ _ _) (by unfold maxLen; omega) (by omega) (by simp; omega) ?_; intro v3 w3 hown3 hgrow3; have hb3 : Below w.heap.size w w3 := Below.grownRow (HN.out.b.alloc hs1 _) hgrow3 (by simp; omega) (HOW.out.alloc _) (Nat.le_refl _); clear hgrow3; rw [← List.map_append] at hown3) | fail)
      go_roundw
      case rel => exact ⟨k + 1, by omega, by go_num, ⟨hb3⟩, by rw [HR.out]; exact hown3⟩
      case measure => simp [intOf]; omega
    · obtain rfl : k = N := by omega
      go_wp2_with fail
      go_ret
      exact ⟨_, rfl, by rw [rowL_length]; exact how, hn⟩

theorem flush_eq (x : Wd) (v : Int) (h : x.loose = true) (hv : x.seen = v) : flushW x = { { { x with flushed := true } with value := v } with again := false } := by
  subst hv
  unfold flushW
  rw [← h]
set_option maxRecDepth 100000 in
set_option maxHeartbeats 4000000 in
theorem rflush_any (d b N : Nat) (f : Nat → Wd) (i : Nat) (hi : i * 8 < N) (w : World) (h : RevAt w d b N f) :
    Calls Tryz.prog 75 #[.pointer (some ⟨d, 0, none⟩), .int .i64 (i : Int)] w (RevG w d b N (flushU i f)) := by
  have hle := h.le
  have h8 := h.by8
  have HL := Lib.hid (rline_any d b N f (i : Int) w h)
  rw [show decide ((0 : Int) ≤ i ∧ (i : Int) < (N / 8 : Nat)) = true from decide_eq_true (by omega)] at HL
  have HD := Lib.hid h
  clear h
  have hi8 : i * 8 + 8 ≤ N := by omega
  have hi65 : i ≤ 8192 := by omega
  go_enter Tryz.func75, Tryz.ntmps75
  go_wp2_with fail
  refine HL.out.mono ?_
  rintro e w1 ⟨rfl, rfl⟩
  go_wp2_with fail
  go_loopw [5] (fun v wr => ∃ j : Nat, i * 8 ≤ j ∧ j ≤ i * 8 + 8 ∧ v = .int .i64 j ∧ RevAt wr d b N (partU i j flushW f) ∧ Up b w wr) (fun v _ => i * 8 + 8 - (intOf v).toNat)
  case atStart => exact ⟨i * 8, Nat.le_refl _, by omega, by go_num, by rw [partU_zero]; exact HD.out, Up.refl _ _⟩
  case round =>
    obtain ⟨j, hj0, hj1, rfl, hdv, hup⟩ := hrel
    have HDV := Lib.hid hdv
    have HUP := Lib.hid hup
    clear hdv hup
    by_cases hlt : j < i * 8 + 8
    · have hs := HDV.out.s
      have hjN : j < N := by omega
      have c2 := HDV.out.a.c2 j hjN
      rw [partU_at] at c2
      cases hl : (f j).loose
      · rw [hl] at c2
        have HSK := Lib.hid (partU_skip (i := i) (op := flushW) hl)
        clear hl
        go_wp2_with fail
        go_roundw
        case rel => exact ⟨j + 1, by omega, by omega, by go_num, by rw [HSK.out]; exact HDV.out, HUP.out⟩
        case measure => simp [intOf]; omega
      · rw [hl] at c2
        have HST := Lib.hid (partU_step (op := flushW) hj0 hl)
        have HAT := Lib.hid (partU_at i j flushW f)
        have hgl : (partU i j flushW f j).loose = true := by rw [partU_at]; exact hl
        clear hl
        obtain ⟨g, hg⟩ : ∃ g, partU i j flushW f = g := ⟨_, rfl⟩
        rw [hg] at HDV HST HAT hgl
        clear hg
        have c1 := HDV.out.a.c1 j hjN
        have c3 := HDV.out.a.c3 j hjN
        have c4 := HDV.out.a.c4 j hjN
        have c5 := HDV.out.a.c5 j hjN
        have f3 := HDV.out.a.fr (j * 6 + 3)
        have f4 := HDV.out.a.fr (j * 6 + 4)
        have f5 := HDV.out.a.fr (j * 6 + 5)
        have hu3 := (Up.refl b wr).set (j * 6 + 3) (.bool true)
        have ha3 := HDV.out.a.set3 j hjN true
        have HCS := Lib.hid (hu3.cell hs HDV.out.ne)
        have HC1 := Lib.hid (show (wr.setCell ⟨b, j * 6 + 3, none⟩ (.bool true)).cell? ⟨b, j * 6 + 1, none⟩ = some (.int .u64 (g j).seen) from by have := ha3.c1 j hjN; rw [upd_same] at this; exact this)
        have HC4 := Lib.hid (show (wr.setCell ⟨b, j * 6 + 3, none⟩ (.bool true)).cell? ⟨b, j * 6 + 4, none⟩ = some (.int .u64 (g j).value) from by have := ha3.c4 j hjN; rw [upd_same] at this; exact this)
        have HA3 := Lib.hid ha3
        have HU3 := Lib.hid hu3
        have HF4 := Lib.hid (ha3.fr (j * 6 + 4))
        have HGL := Lib.hid hgl
        clear hu3 ha3 hgl c4 f4
        go_upto_region 8 with fail
        generalize wr.setCell ⟨b, j * 6 + 3, none⟩ (.bool true) = W1 at *
        have hs1 := HCS.out
        have hc1 := HC1.out
        have hc4 := HC4.out
        have hf4 := HF4.out
        have HS4 := Lib.hid (show (W1.setCell ⟨b, j * 6 + 4, none⟩ (.int .u64 (g j).seen)).cell? ⟨d, 0, none⟩ = some (.slice (some ⟨b, 0, none⟩) N N) ∧ (W1.setCell ⟨b, j * 6 + 4, none⟩ (.int .u64 (g j).seen)).cell? ⟨b, j * 6 + 1, none⟩ = some (.int .u64 (g j).seen) from
          ⟨by rw [cell_far _ _ _ _ _ HDV.out.ne]; exact hs1, cell_set W1 b _ _ _ _ hc1 _ (by rw [if_neg (by omega)])⟩)
        have ha4 := HA3.out.set4 j hjN (g j).seen
        have HA4 := Lib.hid (show RAt (W1.setCell ⟨b, j * 6 + 4, none⟩ (.int .u64 (g j).seen)).drew b N _ from ha4.up (t := (W1.setCell ⟨b, j * 6 + 4, none⟩ (.int .u64 (g j).seen)).heap.size) (.of_nw Nw.refl.drew) (Nat.ne_of_lt ha4.ty.lt))
        have HU4 := Lib.hid ((HU3.out.set (j * 6 + 4) (.int .u64 (g j).seen)).nw Nw.refl.drew)
        clear ha4 hs c1 c2 c3 c5 f3 f5 HA3 HU3 HC1 HC4 HF4 HCS
        generalize hsv : (g j).seen = sv at *
        have HSVV := Lib.hid hsv
        clear hsv
        have hj0' : (0 : Int) ≤ (j : Int) := by omega
        have hjN' : (j : Int) < (N : Int) := by omega
        go_region_held3 (fun w' => w'.cell? ⟨d, 0, none⟩ = some (.slice (some ⟨b, 0, none⟩) N N) ∧ w'.cell? ⟨b, j * 6 + 1, none⟩ = some (.int .u64 sv))
          (first | (exact ⟨hs1, hc1⟩) | (exact HS4.out))
          (fail)
        generalize (W1.setCell ⟨b, j * 6 + 4, none⟩ (.int .u64 sv)).drew = W2 at *
        clear hs1 hc1 hc4 hf4 HS4
        have hs2 : W2.cell? ⟨d, 0, none⟩ = some (.slice (some ⟨b, 0, none⟩) N N) := HU4.out.cell HDV.out.s HDV.out.ne
        have c5 := HA4.out.c5 j hjN
        have f5 := HA4.out.fr (j * 6 + 5)
        have ha5 := HA4.out.set5 j hjN false
        simp only [upd_upd, upd_same] at ha5 c5
        have ha6 : RAt (W2.setCell ⟨b, j * 6 + 5, none⟩ (.bool false)) b N (upd g j (flushW (g j))) := by
          rw [flush_eq (g j) sv HGL.out HSVV.out]; exact ha5
        replace ha5 := ha6
        have HA5 := Lib.hid ha5
        have HU5 := Lib.hid (HU4.out.set (j * 6 + 5) (.bool false))
        clear ha5
        go_wp2_with fail
        go_roundw
        case rel => exact ⟨j + 1, by omega, by omega, by go_num, ⟨HDV.out.k.up HU5.out HDV.out.ne, by rw [HST.out, ← HAT.out]; exact HA5.out, HDV.out.pos, HDV.out.le, HDV.out.by8⟩, HUP.out.trans HU5.out⟩
        case measure => simp [intOf]; omega
    · obtain rfl : j = i * 8 + 8 := by omega
      rw [partU_all] at HDV
      go_wp2_with fail
      go_ret
      exact ⟨rfl, HDV.out, HUP.out⟩
end Go.Proofs.YtkopfnldgnkkoaaGreat

/-
  DEVICES OF N WORDS: Crash.
-/
namespace Go.Proofs.YtkopfnldgnkkoaaGreat
open Go.RowKit Go.Shelf
set_option linter.unusedVariables false
attribute [local go_sem] Oper.semAt_some

def pickV (p : Int) (x : Wd) : Int := if p = 2 then x.seen else if p = 1 ∧ x.flushed = true then x.value else x.sure
def crashP (p : Int) (x : Wd) : Wd := { settleW x (pickV p x) with seen := pickV p x }
def crashW (zs : List Int) (i : Nat) (x : Wd) : Wd := crashP ((zs[i]?.getD 0) % 3) x
/-- Nothing but two blocks, and new memory. -/
structure Up2 (t s : Nat) (w w' : World) : Prop where
  os : w'.os = w.os
  tape : w'.tape = w.tape
  output : w'.output = w.output
  size : w.heap.size ≤ w'.heap.size
  block : ∀ k, k < w.heap.size → k ≠ t → k ≠ s → w'.heap[k]? = w.heap[k]?
theorem Up2.refl (t s : Nat) (w : World) : Up2 t s w w := ⟨rfl, rfl, rfl, Nat.le_refl _, fun _ _ _ _ => rfl⟩
theorem Up2.up {t s : Nat} {a b c : World} (h : Up2 t s a b) (k : Up t b c) : Up2 t s a c :=
  ⟨k.os.trans h.os, k.tape.trans h.tape, k.output.trans h.output, Nat.le_trans h.size k.size, fun i hi h1 h2 => (k.block i (Nat.lt_of_lt_of_le hi h.size) h1).trans (h.block i hi h1 h2)⟩
theorem Up2.up' {t s : Nat} {a b c : World} (h : Up2 t s a b) (k : Up s b c) : Up2 t s a c :=
  ⟨k.os.trans h.os, k.tape.trans h.tape, k.output.trans h.output, Nat.le_trans h.size k.size, fun i hi h1 h2 => (k.block i (Nat.lt_of_lt_of_le hi h.size) h2).trans (h.block i hi h1 h2)⟩
theorem Up2.far {t s B r : Nat} {a b c : World} (h : Up2 t s a b) (k : Up r b c) (hr : a.heap.size ≤ r) : Up2 t s a c :=
  ⟨k.os.trans h.os, k.tape.trans h.tape, k.output.trans h.output, Nat.le_trans h.size k.size, fun i hi h1 h2 => (k.block i (Nat.lt_of_lt_of_le hi h.size) (by omega)).trans (h.block i hi h1 h2)⟩
theorem Up2.cell {t s : Nat} {a b : World} (h : Up2 t s a b) {p : Addr} {v : Value} (hc : a.cell? p = some v) (h1 : p.block ≠ t) (h2 : p.block ≠ s) : b.cell? p = some v :=
  (World.cell?_of_block (w := a) (h.block p.block (cell_lt hc).1 h1 h2)).trans hc
theorem Up2.keepsFrom {t s B : Nat} {W W' : World} (h : Up2 t s W W') (ht : t < B) (hs : s < B) : KeepsFrom B W W' :=
  ⟨h.size, fun k o hB hk ho => (h.block k (Array.getElem?_eq_some_iff.1 hk).1 (by omega) (by omega)).trans hk⟩
/-- What is kept while a crash goes through loose words. -/
def CrashI (W0 : World) (B d b N n₀ : Nat) (zs : List Int) (f : Nat → Wd) (pre : List (Fin N)) (W : World) : Prop :=
  (∃ (a' : Option Addr) (c' : Nat), Boxed W B 45 (.slice a' (zs.drop pre.length).length c') ∧ (zs.drop pre.length).length ≤ c' ∧ (zs.drop pre.length ≠ [] → ∀ p, a' = some p → p.block ≠ b) ∧ Ints n₀ .u8 W a' (zs.drop pre.length)) ∧ DevAt W d b N (gone (crashW zs) 0 0 pre f) ∧ Up2 b B W0 W
theorem crashI_own (W0 : World) (B d b N n₀ : Nat) (zs : List Int) (f : Nat → Wd) (hd : d < W0.heap.size) (hb : b < W0.heap.size) (hB : B < W0.heap.size) (hn : n₀ ≤ W0.heap.size) : OwnFrom W0.heap.size (CrashI W0 B d b N n₀ zs f) := by
  rintro pre W W' row ⟨⟨a', c', h0, hl, hq, hI⟩, h1, h2⟩ hg hr
  have hf := row_far h2.size hr
  have hu := up_of_grown hg
  exact ⟨⟨a', c', (hu.block B (by have := h2.size; omega) (by omega)).trans h0, hl, hq, ints_up hu (by omega) hI⟩, h1.up hu (by omega) (by omega), h2.far (B := 0) hu hf⟩
set_option maxRecDepth 100000 in
set_option maxHeartbeats 1500000 in
theorem crash_gen (d b N : Nat) (f : Nat → Wd) (n₀ : Nat) (a : Option Addr) (len cap : Nat) (zs : List Int) (hl : zs.length = len) (hlc : len ≤ cap) (hreach : len ≤ 140737488355000) (hz : ∀ x ∈ zs, 0 ≤ x ∧ x ≤ 255) (w : World) (hnw : n₀ ≤ w.heap.size) (hab : zs ≠ [] → ∀ p, a = some p → p.block ≠ b) (hI0 : Ints n₀ .u8 w a zs) (h : DevAt w d b N f) :
    Calls Tryz.prog 20 #[.pointer (some ⟨d, 0, none⟩), .slice a len cap] w (DevG w d b N (gone (crashW zs) 0 0 (lsL N f) f)) := by
  subst hl
  have hdl := h.dlt
  have hbl := h.blt
  have hNle := h.le
  have hN00 : Nw w (w.alloc (.cells #[.slice a zs.length cap] 45)) := Nw.refl.alloc _
  have HD := Lib.hid (h.nw hN00)
  have hs := (h.nw hN00).s
  have HI0 := Lib.hid hI0
  have HZ := Lib.hid hz
  clear h hI0 hz
  refine (callsIn_wide (n := 9)).1 ?_
  refine callsIn_of_wp_marks Tryz.func20 rfl trivial ?_ rfl
  simp only [Tryz.ntmps20, List.size_toArray, List.length_cons, List.length_nil, Nat.reduceAdd, Nat.reduceSub, Array.replicate_succ, Array.replicate_zero, List.push_toArray, List.append_toArray, List.nil_append, List.cons_append]
  gi_wp2_with (refine ⟨trivial, ?_⟩; gi_at_call 74; refine (loose_in Fence.wide _ trivial rfl _ _ _ _).mono ?_; rintro e w' ⟨rfl, rfl⟩)
  have hB1 : ((w.alloc (.cells #[.slice a zs.length cap] 45)).alloc (.cells #[.slice (some ⟨b, 0, none⟩) N N] 140)).cell? ⟨w.heap.size + 1, 0, none⟩ = some (.slice (some ⟨b, 0 * 6, none⟩) N N) := by
    have := World.cell?_alloc_new (w.alloc (.cells #[.slice a zs.length cap] 45)) #[.slice (some ⟨b, 0, none⟩) N N] 140 0
    rw [World.size_alloc] at this
    rw [this]; simp
  have hN0 : Nw w ((w.alloc (.cells #[.slice a zs.length cap] 45)).alloc (.cells #[.slice (some ⟨b, 0, none⟩) N N] 140)) := hN00.alloc _
  have hs0 : ((w.alloc (.cells #[.slice a zs.length cap] 45)).alloc (.cells #[.slice (some ⟨b, 0, none⟩) N N] 140)).heap.size = w.heap.size + 2 := by simp
  have hD0 := HD.out.nw (Nw.refl.alloc (.cells #[.slice (some ⟨b, 0, none⟩) N N] 140))
  have hb0 : Boxed ((w.alloc (.cells #[.slice a zs.length cap] 45)).alloc (.cells #[.slice (some ⟨b, 0, none⟩) N N] 140)) w.heap.size 45 (.slice a zs.length cap) := (Boxed.new w _ _).alloc _
  have hI1 := ints_up (Up.of_nw (t := w.heap.size + n₀) hN0) (by omega) HI0.out
  generalize hW0 : (w.alloc (.cells #[.slice a zs.length cap] 45)).alloc (.cells #[.slice (some ⟨b, 0, none⟩) N N] 140) = W0 at *
  refine wpIn_range_K rfl (by omega) (gf := 102) (lb := #[.pointer (some ⟨w.heap.size + 1, 0, none⟩)]) rfl trivial (enters_of Tryz.func102 (by kernel_rfl) rfl)
    (fun _ => rfl) (CrashI W0 w.heap.size d b N n₀ zs f) (fun _ _ _ => False)
    (loose_stops Fence.wide _ trivial rfl (by omega) (w.heap.size + 1) b 0 N N (by omega) (fun k => (f (0 + k)).loose) (CrashI W0 w.heap.size d b N n₀ zs f)
      (fun pre W hi => hi.2.2.cell hB1 (by dsimp only; omega) (by dsimp only; omega))
      (fun pre W k hk hi hp => by
        have := hi.2.1.a.c2 (0 + k) (by omega)
        rw [gone_other _ _ _ _ (fun x hx => by have := hp x hx; omega)] at this
        rw [← this]; congr 2; omega) W0)
    (crashI_own W0 _ d b N n₀ zs f (by omega) (by omega) (by omega) (by omega)) (fun _ _ _ _ _ hs _ _ => hs) ⟨⟨a, cap, hb0, hlc, hab, hI1⟩, hD0, .refl _ _ _⟩
    (fun x t => t.setIfInBounds 5 (.pointer (some ⟨b, 0 * 6 + x.1 * 6, none⟩)))
    ?assign ?body ?done ?stop
  case assign =>
    rintro l pre x W K hi hK
    obtain ⟨xx, hxx⟩ : ∃ xx, 0 * 6 + x.1 * 6 = xx := ⟨_, rfl⟩
    unfold wE at hK ⊢
    rw [hxx] at hK ⊢
    simp [Array.zip, go_sem] at hK ⊢
    gi_wp2
    exact hK
  case body =>
    rintro l pre x W hl _ ⟨⟨a', c', hbx, hlc', hab', hIW⟩, hDW, hUW⟩ _
    have hx16 : x.1 < N := x.2
    have HGN := Lib.hid (gone_snoc (crashW zs) 0 pre x 0 f)
    have HLN : Hid ((zs.drop (pre ++ [x]).length) = (zs.drop pre.length).drop 1) := by rw [List.length_append, List.drop_drop]; rfl
    have HCR : Hid (∀ y, crashW zs (0 + pre.length) y = crashP (((zs.drop pre.length)[0]?.getD 0) % 3) y) := fun y => by rw [crashW, List.getElem?_drop, Nat.add_comm]
    have HZD : Hid (∀ y ∈ zs.drop pre.length, 0 ≤ y ∧ y ≤ 255) := fun y hy => HZ.out y (List.mem_of_mem_drop hy)
    have hLE : (zs.drop pre.length).length ≤ zs.length := by rw [List.length_drop]; omega
    generalize hg : gone (crashW zs) 0 0 pre f = g at hDW HGN
    generalize hys : zs.drop pre.length = ys at *
    have cB := hbx.cell
    have fB := hbx.frozen
    have hA := hDW.a
    have hsW := hUW.size
    have HBX := Lib.hid hbx
    have HDW := Lib.hid hDW
    have HUW := Lib.hid hUW
    clear hbx hDW hUW
    unfold wE
    simp only [Nat.zero_mul, Nat.zero_add] at *
    have c0 := hA.c0 x.1 hx16
    have c1 := hA.c1 x.1 hx16
    have c3 := hA.c3 x.1 hx16
    have c5 := hA.c5 x.1 hx16
    have HS := Lib.hid (fun v W' (h : WAt W' b N g) => settle_any b N g x.1 hx16 v W' h)
    have HA := Lib.hid hA
    clear hA
    simp [Array.zip, go_sem]
    -- how a round ends
    have FIN : Hid (∀ (p : Int) (W1 W2 W' : World) (a2 : Option Addr) (c2 : Nat), crashW zs pre.length (g x.1) = crashP p (g x.1) → Up w.heap.size W W1 → Boxed W1 w.heap.size 45 (.slice a2 (ys.drop 1).length c2) → (ys.drop 1).length ≤ c2 → (ys.drop 1 ≠ [] → ∀ p, a2 = some p → p.block ≠ b) → Ints n₀ .u8 W1 a2 (ys.drop 1) →
        WAt W2 b N (upd g x.1 (settleW (g x.1) (pickV p (g x.1)))) → Up b W1 W2 → W' = W2.setCell ⟨b, x.1 * 6 + 1, none⟩ (.int .u64 (pickV p (g x.1))) → postJ W0.heap.size (CrashI W0 w.heap.size d b N n₀ zs f) (fun _ _ _ => False) (pre ++ [x]) W .normal { tmps := #[], defers := [] } W') := by
      intro p W1 W2 W' a2 c2 hp hu1 hb1 hl1 hq2 hi1 hA2 hu2 rfl
      have hu3 : Up b W1 (W2.setCell ⟨b, x.1 * 6 + 1, none⟩ (.int .u64 (pickV p (g x.1)))) := hu2.set _ _
      have hA3 := hA2.set1 x.1 hx16 (pickV p (g x.1))
      have hU3 : Up2 b w.heap.size W (W2.setCell ⟨b, x.1 * 6 + 1, none⟩ (.int .u64 (pickV p (g x.1)))) := ((Up2.refl _ _ _).up' hu1).up hu3
      refine ⟨hU3.keepsFrom (by omega) (by omega), ⟨a2, c2, ?_, by rw [HLN.out]; exact hl1, by rw [HLN.out]; exact hq2, by rw [HLN.out]; exact ints_upy hu3 hq2 hi1⟩, ?_, ?_⟩
      · rw [HLN.out]
        have : w.heap.size < W1.heap.size := (Array.getElem?_eq_some_iff.1 hb1).1
        exact (hu3.block _ this (by omega)).trans hb1
      · rw [HGN.out, hp]
        refine ⟨(hU3.block d HDW.out.dlt HDW.out.ne (by omega)).trans HDW.out.k, ?_, HDW.out.pos, HDW.out.le, HDW.out.by8⟩
        simpa only [upd_upd, upd_same, crashP] using hA3
      · exact (HUW.out.up' hu1).up hu3
    cases ys with
    | nil =>
      have hp0 : ((([] : List Int)[0]?).getD 0) % 3 = 0 := rfl
      gi_wp2_with (refine ⟨trivial, ?_⟩; gi_at_call 72; refine (CallsIn.inRound l (callsIn_wide.2 (HS.out _ _ HA.out))).mono ?_; rintro e w' ⟨⟨u, rfl⟩, h1, h2⟩; have e0 := h1.c0 x.1 hx16; have e1 := h1.c1 x.1 hx16; have r1 := h1.fr (x.1 * 6 + 1); rw [upd_same] at e0; have e0' : w'.cell? ⟨b, x.1 * 6, none⟩ = some (.int .u64 (g x.1).sure) := e0; have H1 := Lib.hid h1; have H2 := Lib.hid h2; clear h1 h2 e0)
      exact FIN.out 0 W _ _ a' c' (HCR.out _) (Up.refl _ _) HBX.out (Nat.zero_le _) hab' (.inl rfl) H1.out H2.out rfl
    | cons y yr =>
      rcases hIW with hIW | ⟨gb, go, rfl, hgb, hcs⟩
      · cases hIW
      have cy := hcs 0 (by simp)
      obtain ⟨hy0, hy1⟩ := HZD.out y List.mem_cons_self
      simp only [Nat.add_zero, List.length_cons] at cy cB hlc' hLE
      have hIy : Ints n₀ .u8 W (some ⟨gb, go + 1, none⟩) yr := .inr ⟨gb, go + 1, rfl, hgb, fun j hj => by have := hcs (j + 1) (by simpa using hj); rw [show go + (j + 1) = go + 1 + j by omega] at this; simpa using this⟩
      have HIY := Lib.hid hIy
      clear hcs hIy
      have hq1 : (1 : Int) ≤ ((yr.length + 1 : Nat) : Int) := by omega
      have hq2 : (1 : Int) ≤ (yr.length : Int) + 1 := by omega
      have hq3 : 1 ≤ yr.length + 1 := by omega
      have hq4 : ((yr.length + 1 : Nat) : Int) ≤ (c' : Int) := by omega
      have hq5 : (yr.length : Int) + 1 ≤ (c' : Int) := by omega
      have hq6 : (0 : Int) ≤ (yr.length : Int) := by omega
      have hq7 : ((yr.length : Int) + 1).toNat = yr.length + 1 := by omega
      have HCL := Lib.hid hlc'
      have HAB := Lib.hid hab'
      clear hab'
      obtain rfl | hc1 : c' = 1 ∨ 1 < c' := by omega
      · obtain rfl : yr = [] := List.length_eq_zero_iff.1 (by omega)
        have hfol : Tryz.prog.follows .mixedOrders = true := by kernel_rfl
        gi_wp2
        refine wpIn_merge (W.setCell ⟨w.heap.size, 0, none⟩ (.slice (some ⟨gb, go, none⟩) 0 (0))).drew (fun t => (((((((t.setIfInBounds 18 (.slice (some ⟨gb, go, none⟩) (1) (1))).setIfInBounds 19 (.pointer (some ⟨gb, go, none⟩))).setIfInBounds 20 (.int .u8 y)).setIfInBounds 21 (.int .u8 (y.tmod 3))).setIfInBounds 22 (.slice (some ⟨gb, go, none⟩) (1) (1))).setIfInBounds 23 (.slice (some ⟨gb, go, none⟩) 0 (0))).setIfInBounds 6 (.int .u8 (y.tmod 3)))) ?_ ?_
        · dsimp only
          simp only [List.setIfInBounds_toArray, List.set_cons_zero, List.set_cons_succ]
          gi_region_with_o (fail)
          all_goals first | (with_reducible exact ⟨rfl, rfl, rfl⟩) | (simp only [if_neg hc2]; with_reducible exact ⟨rfl, rfl, rfl⟩) | (simp only [if_neg hc2, and_true, true_and])
        simp only [List.setIfInBounds_toArray, List.set_cons_zero, List.set_cons_succ]
        have hb1 : Boxed (W.setCell ⟨w.heap.size, 0, none⟩ (.slice (some ⟨gb, go, none⟩) 0 (0))).drew w.heap.size 45 (.slice (some ⟨gb, go, none⟩) 0 (0)) := HBX.out.set _
        have hu1 : Up w.heap.size W (W.setCell ⟨w.heap.size, 0, none⟩ (.slice (some ⟨gb, go, none⟩) 0 (0))).drew := ((Up.refl _ _).set 0 _).nw Nw.refl.drew
        have hA1 := HA.out.up hu1 (by omega)
        generalize (W.setCell ⟨w.heap.size, 0, none⟩ (.slice (some ⟨gb, go, none⟩) 0 (0))).drew = W1 at *
        have c0 := hA1.c0 x.1 hx16
        have c1 := hA1.c1 x.1 hx16
        have c3 := hA1.c3 x.1 hx16
        have c5 := hA1.c5 x.1 hx16
        have HA1 := Lib.hid hA1
        have HB1 := Lib.hid hb1
        have HU1 := Lib.hid hu1
        have HY3 : Hid (y % 3 = y.tmod 3) := (Int.tmod_eq_emod_of_nonneg hy0).symm
        have hyr : 0 ≤ y.tmod 3 ∧ y.tmod 3 < 3 := by rw [← HY3.out]; omega
        clear hA1 hb1 hu1
        generalize y.tmod 3 = p at *
        obtain rfl | rfl | rfl : p = 2 ∨ p = 1 ∨ p = 0 := by omega
        · gi_wp2_with (refine ⟨trivial, ?_⟩; gi_at_call 72; refine (CallsIn.inRound l (callsIn_wide.2 (HS.out _ _ HA1.out))).mono ?_; rintro e w' ⟨⟨u, rfl⟩, h1, h2⟩; have e0 := h1.c0 x.1 hx16; have e1 := h1.c1 x.1 hx16; have r1 := h1.fr (x.1 * 6 + 1); rw [upd_same] at e0; have e0' : w'.cell? ⟨b, x.1 * 6, none⟩ = some (.int .u64 (g x.1).seen) := e0; have H1 := Lib.hid h1; have H2 := Lib.hid h2; clear h1 h2 e0)
          have hv : pickV 2 (g x.1) = (g x.1).seen := rfl
          have F := FIN.out 2 W1 w' (w'.setCell ⟨b, x.1 * 6 + 1, none⟩ (.int .u64 (pickV 2 (g x.1)))) (some ⟨gb, go, none⟩) (0) (by rw [HCR.out]; simp only [List.getElem?_cons_zero, Option.getD_some]; rw [HY3.out]) HU1.out HB1.out (by have := HCL.out; simp only [List.drop_one, List.tail_cons] at this ⊢; omega) (fun _ p hp => by cases hp; exact HAB.out (by simp) ⟨gb, go, none⟩ rfl) (.inl rfl)
          rw [hv] at F
          exact F H1.out H2.out rfl
        · cases hfl : (g x.1).flushed
          · rw [hfl] at c3
            gi_wp2_with (refine ⟨trivial, ?_⟩; gi_at_call 72; refine (CallsIn.inRound l (callsIn_wide.2 (HS.out _ _ HA1.out))).mono ?_; rintro e w' ⟨⟨u, rfl⟩, h1, h2⟩; have e0 := h1.c0 x.1 hx16; have e1 := h1.c1 x.1 hx16; have r1 := h1.fr (x.1 * 6 + 1); rw [upd_same] at e0; have e0' : w'.cell? ⟨b, x.1 * 6, none⟩ = some (.int .u64 (g x.1).sure) := e0; have H1 := Lib.hid h1; have H2 := Lib.hid h2; clear h1 h2 e0)
            have hv : pickV 1 (g x.1) = (g x.1).sure := (by simp [pickV, hfl])
            have F := FIN.out 1 W1 w' (w'.setCell ⟨b, x.1 * 6 + 1, none⟩ (.int .u64 (pickV 1 (g x.1)))) (some ⟨gb, go, none⟩) (0) (by rw [HCR.out]; simp only [List.getElem?_cons_zero, Option.getD_some]; rw [HY3.out]) HU1.out HB1.out (by have := HCL.out; simp only [List.drop_one, List.tail_cons] at this ⊢; omega) (fun _ p hp => by cases hp; exact HAB.out (by simp) ⟨gb, go, none⟩ rfl) (.inl rfl)
            rw [hv] at F
            exact F H1.out H2.out rfl
          · rw [hfl] at c3
            gi_wp2_with (refine ⟨trivial, ?_⟩; gi_at_call 72; refine (CallsIn.inRound l (callsIn_wide.2 (HS.out _ _ HA1.out))).mono ?_; rintro e w' ⟨⟨u, rfl⟩, h1, h2⟩; have e0 := h1.c0 x.1 hx16; have e1 := h1.c1 x.1 hx16; have r1 := h1.fr (x.1 * 6 + 1); rw [upd_same] at e0; have e0' : w'.cell? ⟨b, x.1 * 6, none⟩ = some (.int .u64 (g x.1).value) := e0; have H1 := Lib.hid h1; have H2 := Lib.hid h2; clear h1 h2 e0)
            have hv : pickV 1 (g x.1) = (g x.1).value := (by simp [pickV, hfl])
            have F := FIN.out 1 W1 w' (w'.setCell ⟨b, x.1 * 6 + 1, none⟩ (.int .u64 (pickV 1 (g x.1)))) (some ⟨gb, go, none⟩) (0) (by rw [HCR.out]; simp only [List.getElem?_cons_zero, Option.getD_some]; rw [HY3.out]) HU1.out HB1.out (by have := HCL.out; simp only [List.drop_one, List.tail_cons] at this ⊢; omega) (fun _ p hp => by cases hp; exact HAB.out (by simp) ⟨gb, go, none⟩ rfl) (.inl rfl)
            rw [hv] at F
            exact F H1.out H2.out rfl
        · gi_wp2_with (refine ⟨trivial, ?_⟩; gi_at_call 72; refine (CallsIn.inRound l (callsIn_wide.2 (HS.out _ _ HA1.out))).mono ?_; rintro e w' ⟨⟨u, rfl⟩, h1, h2⟩; have e0 := h1.c0 x.1 hx16; have e1 := h1.c1 x.1 hx16; have r1 := h1.fr (x.1 * 6 + 1); rw [upd_same] at e0; have e0' : w'.cell? ⟨b, x.1 * 6, none⟩ = some (.int .u64 (g x.1).sure) := e0; have H1 := Lib.hid h1; have H2 := Lib.hid h2; clear h1 h2 e0)
          have hv : pickV 0 (g x.1) = (g x.1).sure := rfl
          have F := FIN.out 0 W1 w' (w'.setCell ⟨b, x.1 * 6 + 1, none⟩ (.int .u64 (pickV 0 (g x.1)))) (some ⟨gb, go, none⟩) (0) (by rw [HCR.out]; simp only [List.getElem?_cons_zero, Option.getD_some]; rw [HY3.out]) HU1.out HB1.out (by have := HCL.out; simp only [List.drop_one, List.tail_cons] at this ⊢; omega) (fun _ p hp => by cases hp; exact HAB.out (by simp) ⟨gb, go, none⟩ rfl) (.inl rfl)
          rw [hv] at F
          exact F H1.out H2.out rfl
      · have hc2 : ¬ c' = 1 := by omega
        have hfol : Tryz.prog.follows .mixedOrders = true := by kernel_rfl
        gi_wp2
        refine wpIn_merge (W.setCell ⟨w.heap.size, 0, none⟩ (.slice (some ⟨gb, go + 1, none⟩) yr.length (c' - 1))).drew (fun t => (((((((t.setIfInBounds 18 (.slice (some ⟨gb, go, none⟩) (yr.length + 1) (c'))).setIfInBounds 19 (.pointer (some ⟨gb, go, none⟩))).setIfInBounds 20 (.int .u8 y)).setIfInBounds 21 (.int .u8 (y.tmod 3))).setIfInBounds 22 (.slice (some ⟨gb, go, none⟩) (yr.length + 1) (c'))).setIfInBounds 23 (.slice (some ⟨gb, go + 1, none⟩) yr.length (c' - 1))).setIfInBounds 6 (.int .u8 (y.tmod 3)))) ?_ ?_
        · dsimp only
          simp only [List.setIfInBounds_toArray, List.set_cons_zero, List.set_cons_succ]
          gi_region_with_o (fail)
          all_goals first | (with_reducible exact ⟨rfl, rfl, rfl⟩) | (simp only [if_neg hc2]; with_reducible exact ⟨rfl, rfl, rfl⟩) | (simp only [if_neg hc2, and_true, true_and])
        simp only [List.setIfInBounds_toArray, List.set_cons_zero, List.set_cons_succ]
        have hb1 : Boxed (W.setCell ⟨w.heap.size, 0, none⟩ (.slice (some ⟨gb, go + 1, none⟩) yr.length (c' - 1))).drew w.heap.size 45 (.slice (some ⟨gb, go + 1, none⟩) yr.length (c' - 1)) := HBX.out.set _
        have hu1 : Up w.heap.size W (W.setCell ⟨w.heap.size, 0, none⟩ (.slice (some ⟨gb, go + 1, none⟩) yr.length (c' - 1))).drew := ((Up.refl _ _).set 0 _).nw Nw.refl.drew
        have hA1 := HA.out.up hu1 (by omega)
        generalize (W.setCell ⟨w.heap.size, 0, none⟩ (.slice (some ⟨gb, go + 1, none⟩) yr.length (c' - 1))).drew = W1 at *
        have c0 := hA1.c0 x.1 hx16
        have c1 := hA1.c1 x.1 hx16
        have c3 := hA1.c3 x.1 hx16
        have c5 := hA1.c5 x.1 hx16
        have HA1 := Lib.hid hA1
        have HB1 := Lib.hid hb1
        have HU1 := Lib.hid hu1
        have HY3 : Hid (y % 3 = y.tmod 3) := (Int.tmod_eq_emod_of_nonneg hy0).symm
        have hyr : 0 ≤ y.tmod 3 ∧ y.tmod 3 < 3 := by rw [← HY3.out]; omega
        clear hA1 hb1 hu1
        generalize y.tmod 3 = p at *
        obtain rfl | rfl | rfl : p = 2 ∨ p = 1 ∨ p = 0 := by omega
        · gi_wp2_with (refine ⟨trivial, ?_⟩; gi_at_call 72; refine (CallsIn.inRound l (callsIn_wide.2 (HS.out _ _ HA1.out))).mono ?_; rintro e w' ⟨⟨u, rfl⟩, h1, h2⟩; have e0 := h1.c0 x.1 hx16; have e1 := h1.c1 x.1 hx16; have r1 := h1.fr (x.1 * 6 + 1); rw [upd_same] at e0; have e0' : w'.cell? ⟨b, x.1 * 6, none⟩ = some (.int .u64 (g x.1).seen) := e0; have H1 := Lib.hid h1; have H2 := Lib.hid h2; clear h1 h2 e0)
          have hv : pickV 2 (g x.1) = (g x.1).seen := rfl
          have F := FIN.out 2 W1 w' (w'.setCell ⟨b, x.1 * 6 + 1, none⟩ (.int .u64 (pickV 2 (g x.1)))) (some ⟨gb, go + 1, none⟩) (c' - 1) (by rw [HCR.out]; simp only [List.getElem?_cons_zero, Option.getD_some]; rw [HY3.out]) HU1.out HB1.out (by have := HCL.out; simp only [List.drop_one, List.tail_cons] at this ⊢; omega) (fun _ p hp => by cases hp; exact HAB.out (by simp) ⟨gb, go, none⟩ rfl) (ints_up HU1.out (by omega) HIY.out)
          rw [hv] at F
          exact F H1.out H2.out rfl
        · cases hfl : (g x.1).flushed
          · rw [hfl] at c3
            gi_wp2_with (refine ⟨trivial, ?_⟩; gi_at_call 72; refine (CallsIn.inRound l (callsIn_wide.2 (HS.out _ _ HA1.out))).mono ?_; rintro e w' ⟨⟨u, rfl⟩, h1, h2⟩; have e0 := h1.c0 x.1 hx16; have e1 := h1.c1 x.1 hx16; have r1 := h1.fr (x.1 * 6 + 1); rw [upd_same] at e0; have e0' : w'.cell? ⟨b, x.1 * 6, none⟩ = some (.int .u64 (g x.1).sure) := e0; have H1 := Lib.hid h1; have H2 := Lib.hid h2; clear h1 h2 e0)
            have hv : pickV 1 (g x.1) = (g x.1).sure := (by simp [pickV, hfl])
            have F := FIN.out 1 W1 w' (w'.setCell ⟨b, x.1 * 6 + 1, none⟩ (.int .u64 (pickV 1 (g x.1)))) (some ⟨gb, go + 1, none⟩) (c' - 1) (by rw [HCR.out]; simp only [List.getElem?_cons_zero, Option.getD_some]; rw [HY3.out]) HU1.out HB1.out (by have := HCL.out; simp only [List.drop_one, List.tail_cons] at this ⊢; omega) (fun _ p hp => by cases hp; exact HAB.out (by simp) ⟨gb, go, none⟩ rfl) (ints_up HU1.out (by omega) HIY.out)
            rw [hv] at F
            exact F H1.out H2.out rfl
          · rw [hfl] at c3
            gi_wp2_with (refine ⟨trivial, ?_⟩; gi_at_call 72; refine (CallsIn.inRound l (callsIn_wide.2 (HS.out _ _ HA1.out))).mono ?_; rintro e w' ⟨⟨u, rfl⟩, h1, h2⟩; have e0 := h1.c0 x.1 hx16; have e1 := h1.c1 x.1 hx16; have r1 := h1.fr (x.1 * 6 + 1); rw [upd_same] at e0; have e0' : w'.cell? ⟨b, x.1 * 6, none⟩ = some (.int .u64 (g x.1).value) := e0; have H1 := Lib.hid h1; have H2 := Lib.hid h2; clear h1 h2 e0)
            have hv : pickV 1 (g x.1) = (g x.1).value := (by simp [pickV, hfl])
            have F := FIN.out 1 W1 w' (w'.setCell ⟨b, x.1 * 6 + 1, none⟩ (.int .u64 (pickV 1 (g x.1)))) (some ⟨gb, go + 1, none⟩) (c' - 1) (by rw [HCR.out]; simp only [List.getElem?_cons_zero, Option.getD_some]; rw [HY3.out]) HU1.out HB1.out (by have := HCL.out; simp only [List.drop_one, List.tail_cons] at this ⊢; omega) (fun _ p hp => by cases hp; exact HAB.out (by simp) ⟨gb, go, none⟩ rfl) (ints_up HU1.out (by omega) HIY.out)
            rw [hv] at F
            exact F H1.out H2.out rfl
        · gi_wp2_with (refine ⟨trivial, ?_⟩; gi_at_call 72; refine (CallsIn.inRound l (callsIn_wide.2 (HS.out _ _ HA1.out))).mono ?_; rintro e w' ⟨⟨u, rfl⟩, h1, h2⟩; have e0 := h1.c0 x.1 hx16; have e1 := h1.c1 x.1 hx16; have r1 := h1.fr (x.1 * 6 + 1); rw [upd_same] at e0; have e0' : w'.cell? ⟨b, x.1 * 6, none⟩ = some (.int .u64 (g x.1).sure) := e0; have H1 := Lib.hid h1; have H2 := Lib.hid h2; clear h1 h2 e0)
          have hv : pickV 0 (g x.1) = (g x.1).sure := rfl
          have F := FIN.out 0 W1 w' (w'.setCell ⟨b, x.1 * 6 + 1, none⟩ (.int .u64 (pickV 0 (g x.1)))) (some ⟨gb, go + 1, none⟩) (c' - 1) (by rw [HCR.out]; simp only [List.getElem?_cons_zero, Option.getD_some]; rw [HY3.out]) HU1.out HB1.out (by have := HCL.out; simp only [List.drop_one, List.tail_cons] at this ⊢; omega) (fun _ p hp => by cases hp; exact HAB.out (by simp) ⟨gb, go, none⟩ rfl) (ints_up HU1.out (by omega) HIY.out)
          rw [hv] at F
          exact F H1.out H2.out rfl
  case done =>
    rintro D xs W hD rfl ⟨_, hi1, hi2⟩ hK
    have H1 := Lib.hid hi1
    have H2 := Lib.hid hi2
    clear hi1 hi2
    gi_wp2
    refine ⟨by simp, .inl ⟨_, _, rfl, run_takeDeferred hK, ?_⟩⟩
    have hs2 := H2.out.size
    refine ⟨.int .i64 0, by simp [results, Tryz.f20, go_sem], rfl, H1.out.putDone (by omega) (by omega), ?_⟩
    exact ⟨H2.out.os.trans hN0.b.os, H2.out.tape.trans hN0.b.tape, H2.out.output.trans hN0.b.output, by simp only [World.putObj]; simp; omega, fun k hk hn => (World.putObj_heap_other (by omega)).trans ((H2.out.block k (by omega) hn (by omega)).trans (hN0.b.block k hk))⟩
  case stop =>
    rintro D c pre W _ _ h _
    exact h.elim

end Go.Proofs.YtkopfnldgnkkoaaGreat

/-
  THE DOCUMENT's DEVICES: Fence, Crash.
-/
namespace Go.Proofs.YtkopfnldgnkkoaaGreat
open Go.RowKit Go.Shelf
set_option linter.unusedVariables false

/-- The first j words turned. -/
def headU (j : Nat) (op : Wd → Wd) (f : Nat → Wd) : Nat → Wd := fun k => if k < j then op (f k) else f k
theorem headU_zero (op : Wd → Wd) (f : Nat → Wd) : headU 0 op f = f := by funext k; exact if_neg (Nat.not_lt_zero _)
theorem headU_at (j : Nat) (op : Wd → Wd) (f : Nat → Wd) : headU j op f j = f j := if_neg (Nat.lt_irrefl _)
theorem headU_step (j : Nat) (op : Wd → Wd) (f : Nat → Wd) : upd (headU j op f) j (op (f j)) = headU (j + 1) op f := by
  funext k
  unfold upd headU
  by_cases e : k = j
  · subst e; rw [if_pos rfl, if_pos (Nat.lt_succ_self _)]
  · rw [if_neg e]
    by_cases h : k < j
    · rw [if_pos h, if_pos (by omega)]
    · rw [if_neg h, if_neg (by omega)]
theorem headU_skip (j : Nat) (op : Wd → Wd) (f : Nat → Wd) (h : op (f j) = f j) : headU (j + 1) op f = headU j op f := by
  rw [← headU_step, h]
  exact upd_self _ _ _ (headU_at j op f).symm
/-- A word with all its cells stored. -/
theorem RAt.set6 {W : World} {b n : Nat} {f : Nat → Wd} (h : RAt W b n f) (k : Nat) (hk : k < n) (x : Wd) :
    RAt ((((((W.setCell ⟨b, k * 6, none⟩ (.int .u64 x.sure)).setCell ⟨b, k * 6 + 1, none⟩ (.int .u64 x.seen)).setCell ⟨b, k * 6 + 2, none⟩ (.bool x.loose)).setCell ⟨b, k * 6 + 3, none⟩ (.bool x.flushed)).setCell ⟨b, k * 6 + 4, none⟩ (.int .u64 x.value)).setCell ⟨b, k * 6 + 5, none⟩ (.bool x.again)) b n (upd f k x) := by
  have h6 := (((((h.set0 k hk x.sure).set1 k hk x.seen).set2 k hk x.loose).set3 k hk x.flushed).set4 k hk x.value).set5 k hk x.again
  simp only [upd_upd, upd_same] at h6
  exact h6
theorem up_set6 (b : Nat) (W : World) (k : Nat) (v0 v1 v2 v3 v4 v5 : Value) :
    Up b W ((((((W.setCell ⟨b, k * 6, none⟩ v0).setCell ⟨b, k * 6 + 1, none⟩ v1).setCell ⟨b, k * 6 + 2, none⟩ v2).setCell ⟨b, k * 6 + 3, none⟩ v3).setCell ⟨b, k * 6 + 4, none⟩ v4).setCell ⟨b, k * 6 + 5, none⟩ v5) :=
  ((((((Up.refl b W).set (k * 6) v0).set (k * 6 + 1) v1).set (k * 6 + 2) v2).set (k * 6 + 3) v3).set (k * 6 + 4) v4).set (k * 6 + 5) v5
theorem fence_no {x : Wd} (h : x.flushed = false) : fenceW x = x := by unfold fenceW; rw [h]; simp
theorem fence_yes {x : Wd} (h : x.flushed = true) : fenceW x = ⟨x.value, x.seen, x.again, false, x.again, 0⟩ := by unfold fenceW; rw [if_pos h]; rfl

set_option maxRecDepth 100000 in
set_option maxHeartbeats 4000000 in
theorem rfence_any (d b N : Nat) (f : Nat → Wd) (w : World) (h : RevAt w d b N f) :
    Calls Tryz.prog 76 #[.pointer (some ⟨d, 0, none⟩)] w fun e w' => (∃ u, e = .returned u) ∧ RevAt w' d b N (fun k => fenceW (f k)) ∧ Up b w w' := by
  have hle := h.le
  have HD := Lib.hid h
  clear h
  go_enter Tryz.func76, Tryz.ntmps76
  go_wp2_with fail
  go_loopw [2] (fun v wr => ∃ j : Nat, j ≤ N ∧ v = .int .i64 j ∧ RevAt wr d b N (headU j fenceW f) ∧ Up b w wr) (fun v _ => N - (intOf v).toNat)
  case atStart => exact ⟨0, Nat.zero_le _, rfl, by rw [headU_zero]; exact HD.out, Up.refl _ _⟩
  case round =>
    obtain ⟨j, hj, rfl, hdv, hup⟩ := hrel
    have HDV := Lib.hid hdv
    have HUP := Lib.hid hup
    clear hdv hup
    have hs := HDV.out.s
    by_cases hjN : j < N
    · have c0 := HDV.out.a.c0 j hjN
      have c1 := HDV.out.a.c1 j hjN
      have c2 := HDV.out.a.c2 j hjN
      have c3 := HDV.out.a.c3 j hjN
      have c4 := HDV.out.a.c4 j hjN
      have c5 := HDV.out.a.c5 j hjN
      rw [headU_at] at c0 c1 c2 c3 c4 c5
      have HSK := Lib.hid (fun h => headU_skip j fenceW f h)
      have HST := Lib.hid (headU_step j fenceW f)
      obtain ⟨x, hx⟩ : ∃ x, f j = x := ⟨_, rfl⟩
      rw [hx] at c0 c1 c2 c3 c4 c5 HSK HST
      obtain ⟨x0, x1, x2, x3, x4, x5⟩ := x
      dsimp only at c0 c1 c2 c3 c4 c5
      have hj0 : (j : Int) < (N : Int) := by omega
      have hjn : (0 : Int) ≤ (j : Int) := by omega
      clear hx
      cases x3
      · have HSK2 := Lib.hid (HSK.out (fence_no rfl))
        go_wp2_with fail
        go_roundw
        case rel => exact ⟨j + 1, by omega, by go_num, by rw [HSK2.out]; exact HDV.out.nw (Nw.refl.alloc _), HUP.out.alloc _⟩
        case measure => simp [intOf]; omega
      · rw [fence_yes rfl] at HST
        dsimp only at HST
        have hal := (Nw.refl (w := wr)).alloc (.cells #[.int .u64 x0, .int .u64 x1, .bool x2, .bool true, .int .u64 x5, .bool x4] 132)
        have hbx := Blk.new wr #[.int .u64 x0, .int .u64 x1, .bool x2, .bool true, .int .u64 x5, .bool x4] 132
        go_upto_region 5 with fail
        have HRn := Lib.hid (HDV.out.nw hal)
        have hsn := HRn.out.s
        generalize hW : wr.alloc (.cells #[.int .u64 x0, .int .u64 x1, .bool x2, .bool true, .int .u64 x5, .bool x4] 132) = W1 at *
        have HUn := Lib.hid (HUP.out.nw hal)
        have hbn : wr.heap.size ≠ b := Nat.ne_of_gt HDV.out.blt
        generalize wr.heap.size = bx at *
        have b1 : W1.cell? ⟨bx, 1, none⟩ = some (.int .u64 x1) := hbx.cell rfl
        have b4 : W1.cell? ⟨bx, 4, none⟩ = some (.int .u64 x5) := hbx.cell rfl
        have b5 : W1.cell? ⟨bx, 5, none⟩ = some (.bool x4) := hbx.cell rfl
        have hd0 := HRn.out.a.c0 j hjN
        have hd1 := HRn.out.a.c1 j hjN
        have hd2 := HRn.out.a.c2 j hjN
        have hd3 := HRn.out.a.c3 j hjN
        have hd4 := HRn.out.a.c4 j hjN
        have hd5 := HRn.out.a.c5 j hjN
        have f0 := HRn.out.a.fr (j * 6)
        have f1 := HRn.out.a.fr (j * 6 + 1)
        have f2 := HRn.out.a.fr (j * 6 + 2)
        have f3 := HRn.out.a.fr (j * 6 + 3)
        have f4 := HRn.out.a.fr (j * 6 + 4)
        have f5 := HRn.out.a.fr (j * 6 + 5)
        have ha6 := HRn.out.a.set6 j hjN ⟨x5, x1, x4, false, x4, 0⟩
        rw [HST.out] at ha6
        dsimp only at ha6
        have hu6 := up_set6 b W1 j (.int .u64 x5) (.int .u64 x1) (.bool x4) (.bool false) (.int .u64 0) (.bool x4)
        obtain ⟨W6, hW6⟩ : ∃ W6, (((((W1.setCell ⟨b, j * 6, none⟩ (.int .u64 x5)).setCell ⟨b, j * 6 + 1, none⟩ (.int .u64 x1)).setCell ⟨b, j * 6 + 2, none⟩ (.bool x4)).setCell ⟨b, j * 6 + 3, none⟩ (.bool false)).setCell ⟨b, j * 6 + 4, none⟩ (.int .u64 0)).setCell ⟨b, j * 6 + 5, none⟩ (.bool x4) = W6 := ⟨_, rfl⟩
        rw [hW6] at ha6 hu6
        have HS6 := Lib.hid (And.intro (hu6.cell hsn HRn.out.ne) (And.intro (hu6.cell b1 hbn) (And.intro (hu6.cell b4 hbn) (hu6.cell b5 hbn))))
        have HU := Lib.hid (hu6.nw Nw.refl.drew)
        have HA := Lib.hid (show RevAt W6.drew d b N (headU (j + 1) fenceW f) from ⟨HRn.out.k.up HU.out HRn.out.ne, ha6.up (t := W6.heap.size) (.of_nw Nw.refl.drew) (Nat.ne_of_lt ha6.ty.lt), HRn.out.pos, HRn.out.le, HRn.out.by8⟩)
        have HW6 := Lib.hid hW6
        clear c0 c1 c2 c3 c4 c5 hs hal hW hbx hW6 hu6 ha6
        refine wp_region_noPanic ?_
        refine wp_region_held_drew (S := (fun w' => w'.cell? ⟨d, 0, none⟩ = some (.slice (some ⟨b, 0, none⟩) N N) ∧ w'.cell? ⟨bx, 1, none⟩ = some (.int .u64 x1) ∧ w'.cell? ⟨bx, 4, none⟩ = some (.int .u64 x5) ∧ w'.cell? ⟨bx, 5, none⟩ = some (.bool x4))) (by kernel_rfl) ?_ (fun hHeld => ?_)
        · exact ⟨hsn, b1, b4, b5⟩
        refine takeD (i := 0) (v := ?_) 22 rfl rfl ?_ ?_ ?_ (fun _ _ _ h => h) ?_ (by assumption) ?_
        rotate_left
        · kernel_rfl
        · kernel_rfl
        · kernel_rfl
        · refine Or.inl (And.intro ?_ ?_)
          · rfl
          · intro w hSw
            obtain ⟨hsn, b1, b4, b5⟩ := hSw
            first | (go_simp; done) | (go_simp; with_reducible rfl)
        simp only [List.setIfInBounds_toArray, List.set_cons_zero, List.set_cons_succ]
        refine takeD (i := 1) (v := ?_) 23 rfl rfl ?_ ?_ ?_ (fun _ _ _ h => h) ?_ (by assumption) ?_
        rotate_left
        · kernel_rfl
        · kernel_rfl
        · kernel_rfl
        · refine Or.inl (And.intro ?_ ?_)
          · rfl
          · intro w hSw
            obtain ⟨hsn, b1, b4, b5⟩ := hSw
            first | (go_simp; done) | (go_simp; with_reducible rfl)
        simp only [List.setIfInBounds_toArray, List.set_cons_zero, List.set_cons_succ]
        refine takeD (i := 2) (v := ?_) 24 rfl rfl ?_ ?_ ?_ (fun _ _ _ h => h) ?_ (by assumption) ?_
        rotate_left
        · kernel_rfl
        · kernel_rfl
        · kernel_rfl
        · refine Or.inl (And.intro ?_ ?_)
          · rfl
          · intro w hSw
            obtain ⟨hsn, b1, b4, b5⟩ := hSw
            first | (go_simp; done) | (go_simp; with_reducible rfl)
        simp only [List.setIfInBounds_toArray, List.set_cons_zero, List.set_cons_succ]
        refine takeD (i := 3) (v := ?_) 25 rfl rfl ?_ ?_ ?_ (fun _ _ _ h => h) ?_ (by assumption) ?_
        rotate_left
        · kernel_rfl
        · kernel_rfl
        · kernel_rfl
        · refine Or.inl (And.intro ?_ ?_)
          · rfl
          · intro w hSw
            obtain ⟨hsn, b1, b4, b5⟩ := hSw
            first | (go_simp; done) | (go_simp; with_reducible rfl)
        simp only [List.setIfInBounds_toArray, List.set_cons_zero, List.set_cons_succ]
        refine takeD (i := 4) (v := ?_) 26 rfl rfl ?_ ?_ ?_ (fun _ _ _ h => h) ?_ (by assumption) ?_
        rotate_left
        · kernel_rfl
        · kernel_rfl
        · kernel_rfl
        · refine Or.inl (And.intro ?_ ?_)
          · rfl
          · intro w hSw
            obtain ⟨hsn, b1, b4, b5⟩ := hSw
            first | (go_simp; done) | (go_simp; with_reducible rfl)
        simp only [List.setIfInBounds_toArray, List.set_cons_zero, List.set_cons_succ]
        refine takeD (i := 5) (v := ?_) 27 rfl rfl ?_ ?_ ?_ (fun _ _ _ h => h) ?_ (by assumption) ?_
        rotate_left
        · kernel_rfl
        · kernel_rfl
        · kernel_rfl
        · refine Or.inl (And.intro ?_ ?_)
          · rfl
          · intro w hSw
            obtain ⟨hsn, b1, b4, b5⟩ := hSw
            first | (go_simp; done) | (go_simp; with_reducible rfl)
        simp only [List.setIfInBounds_toArray, List.set_cons_zero, List.set_cons_succ]
        refine takeD (i := 6) (v := ?_) 28 rfl rfl ?_ ?_ ?_ (fun _ _ _ h => h) ?_ (by assumption) ?_
        rotate_left
        · kernel_rfl
        · kernel_rfl
        · kernel_rfl
        · refine Or.inl (And.intro ?_ ?_)
          · rfl
          · intro w hSw
            obtain ⟨hsn, b1, b4, b5⟩ := hSw
            first | (go_simp; done) | (go_simp; with_reducible rfl)
        simp only [List.setIfInBounds_toArray, List.set_cons_zero, List.set_cons_succ]
        refine takeD (i := 7) (v := ?_) 29 rfl rfl ?_ ?_ ?_ (fun _ _ _ h => h) ?_ (by assumption) ?_
        rotate_left
        · kernel_rfl
        · kernel_rfl
        · kernel_rfl
        · refine Or.inl (And.intro ?_ ?_)
          · rfl
          · intro w hSw
            obtain ⟨hsn, b1, b4, b5⟩ := hSw
            first | (go_simp; done) | (go_simp; with_reducible rfl)
        simp only [List.setIfInBounds_toArray, List.set_cons_zero, List.set_cons_succ]
        refine takeD (i := 8) (v := ?_) 30 rfl rfl ?_ ?_ ?_ (fun _ _ _ h => h) ?_ (by assumption) ?_
        rotate_left
        · kernel_rfl
        · kernel_rfl
        · kernel_rfl
        · refine Or.inl (And.intro ?_ ?_)
          · rfl
          · intro w hSw
            obtain ⟨hsn, b1, b4, b5⟩ := hSw
            first | (go_simp; done) | (go_simp; with_reducible rfl)
        simp only [List.setIfInBounds_toArray, List.set_cons_zero, List.set_cons_succ]
        refine takeD (i := 9) (v := ?_) 31 rfl rfl ?_ ?_ ?_ (fun _ _ _ h => h) ?_ (by assumption) ?_
        rotate_left
        · kernel_rfl
        · kernel_rfl
        · kernel_rfl
        · refine Or.inl (And.intro ?_ ?_)
          · rfl
          · intro w hSw
            obtain ⟨hsn, b1, b4, b5⟩ := hSw
            first | (go_simp; done) | (go_simp; with_reducible rfl)
        simp only [List.setIfInBounds_toArray, List.set_cons_zero, List.set_cons_succ]
        refine takeD (i := 10) (v := ?_) 32 rfl rfl ?_ ?_ ?_ (fun _ _ _ h => h) ?_ (by assumption) ?_
        rotate_left
        · kernel_rfl
        · kernel_rfl
        · kernel_rfl
        · refine Or.inl (And.intro ?_ ?_)
          · rfl
          · intro w hSw
            obtain ⟨hsn, b1, b4, b5⟩ := hSw
            first | (go_simp; done) | (go_simp; with_reducible rfl)
        simp only [List.setIfInBounds_toArray, List.set_cons_zero, List.set_cons_succ]
        refine takeD (i := 11) (v := ?_) 33 rfl rfl ?_ ?_ ?_ (fun _ _ _ h => h) ?_ (by assumption) ?_
        rotate_left
        · kernel_rfl
        · kernel_rfl
        · kernel_rfl
        · refine Or.inl (And.intro ?_ ?_)
          · rfl
          · intro w hSw
            obtain ⟨hsn, b1, b4, b5⟩ := hSw
            first | (go_simp; done) | (go_simp; with_reducible rfl)
        simp only [List.setIfInBounds_toArray, List.set_cons_zero, List.set_cons_succ]
        refine takeD (i := 12) (v := ?_) 34 rfl rfl ?_ ?_ ?_ (fun _ _ _ h => h) ?_ (by assumption) ?_
        rotate_left
        · kernel_rfl
        · kernel_rfl
        · kernel_rfl
        · refine Or.inl (And.intro ?_ ?_)
          · rfl
          · intro w hSw
            obtain ⟨hsn, b1, b4, b5⟩ := hSw
            first | (go_simp; done) | (go_simp; with_reducible rfl)
        simp only [List.setIfInBounds_toArray, List.set_cons_zero, List.set_cons_succ]
        refine takeD (i := 13) (v := ?_) 35 rfl rfl ?_ ?_ ?_ (fun _ _ _ h => h) ?_ (by assumption) ?_
        rotate_left
        · kernel_rfl
        · kernel_rfl
        · kernel_rfl
        · refine Or.inl (And.intro ?_ ?_)
          · rfl
          · intro w hSw
            obtain ⟨hsn, b1, b4, b5⟩ := hSw
            first | (go_simp; done) | (go_simp; with_reducible rfl)
        simp only [List.setIfInBounds_toArray, List.set_cons_zero, List.set_cons_succ]
        refine takeD (i := 14) (v := ?_) 36 rfl rfl ?_ ?_ ?_ (fun _ _ _ h => h) ?_ (by assumption) ?_
        rotate_left
        · kernel_rfl
        · kernel_rfl
        · kernel_rfl
        · refine Or.inl (And.intro ?_ ?_)
          · rfl
          · intro w hSw
            obtain ⟨hsn, b1, b4, b5⟩ := hSw
            first | (go_simp; done) | (go_simp; with_reducible rfl)
        simp only [List.setIfInBounds_toArray, List.set_cons_zero, List.set_cons_succ]
        refine wpAnyH_ready (rs := [15]) (by kernel_rfl) (by simp) ?_
        refine AllReadyH.cons rfl (fun K hK => ?_) AllReadyH.nil
        go_simp
        refine hK.out _ _ ?_ (fun hHeld2 => ?_)
        · rw [HW6.out]; exact HS6.out
        clear hK K hHeld
        refine wpAnyH_done (by kernel_rfl) ?_ _
        refine NoPanic.normal ?_
        clear b1 b4 b5 hd0 hd1 hd2 hd3 hd4 hd5 f0 f1 f2 f3 f4 f5 hsn
        rw [HW6.out]
        clear HW6
        go_wp2_with fail
        go_roundw
        case rel => exact ⟨j + 1, by omega, by go_num, HA.out, HUn.out.trans HU.out⟩
        case measure => simp [intOf]; omega
    · obtain rfl : j = N := by omega
      have HFE := Lib.hid (HDV.out.congr (g := fun k => fenceW (f k)) (fun k hk => if_pos hk))
      go_wp2_with fail
      go_end0
      exact ⟨⟨_, rfl⟩, HFE.out, HUP.out⟩

/-- How many of the first words are loose. -/
def lcN (f : Nat → Wd) (j : Nat) : Nat := ((List.range j).filter fun k => (f k).loose).length
theorem lcN_succ (f : Nat → Wd) (j : Nat) : lcN f (j + 1) = lcN f j + if (f j).loose = true then 1 else 0 := by
  unfold lcN
  rw [List.range_succ, List.filter_append, List.length_append]
  by_cases h : (f j).loose = true
  · rw [if_pos h]; simp [h]
  · rw [if_neg h]; simp [h]
theorem lcN_le (f : Nat → Wd) (j : Nat) : lcN f j ≤ j := by
  unfold lcN
  exact Nat.le_trans (List.length_filter_le _ _) (by simp)
/-- What the document's Crash makes of a word. -/
def crR (zs : List Int) (f : Nat → Wd) (k : Nat) : Wd := crashP (if (f k).loose = true then (zs[lcN f k]?.getD 0) % 3 else 0) (f k)
def headR (zs : List Int) (j : Nat) (f : Nat → Wd) : Nat → Wd := fun k => if k < j then crR zs f k else f k
theorem headR_zero (zs : List Int) (f : Nat → Wd) : headR zs 0 f = f := by funext k; exact if_neg (Nat.not_lt_zero _)
theorem headR_at (zs : List Int) (j : Nat) (f : Nat → Wd) : headR zs j f j = f j := if_neg (Nat.lt_irrefl _)
theorem headR_step (zs : List Int) (j : Nat) (f : Nat → Wd) : upd (headR zs j f) j (crR zs f j) = headR zs (j + 1) f := by
  funext k
  unfold upd headR
  by_cases e : k = j
  · subst e; rw [if_pos rfl, if_pos (Nat.lt_succ_self _)]
  · rw [if_neg e]
    by_cases h : k < j
    · rw [if_pos h, if_pos (by omega)]
    · rw [if_neg h, if_neg (by omega)]
theorem crashP_eq (p : Int) (x : Wd) : crashP p x = ⟨pickV p x, pickV p x, false, false, false, 0⟩ := rfl

set_option maxRecDepth 100000 in
set_option maxHeartbeats 8000000 in
theorem rcrash_any (d b N : Nat) (f : Nat → Wd) (a : Option Addr) (len cap : Nat) (zs : List Int) (hl : zs.length = len) (hz : ∀ x ∈ zs, 0 ≤ x ∧ x ≤ 255) (w : World) (hI : Ints w.heap.size .u8 w a zs) (hb : zs ≠ [] → ∀ p, a = some p → p.block ≠ b) (h : RevAt w d b N f) :
    Calls Tryz.prog 21 #[.pointer (some ⟨d, 0, none⟩), .slice a len cap] w fun e w' => (∃ u, e = .returned u) ∧ RevAt w' d b N (crR zs f) ∧ Up b w w' := by
  have hle := h.le
  have HD := Lib.hid h
  have HI := Lib.hid hI
  have HB := Lib.hid hb
  have HL := Lib.hid hl
  have HZ := Lib.hid hz
  clear h hI hb hl hz
  go_enter Tryz.func21, Tryz.ntmps21
  go_wp2_with fail
  go_loopw [5, 4] (fun v t wr => ∃ j : Nat, j ≤ N ∧ v = .int .i64 j ∧ t = .int .i64 (lcN f j : Nat) ∧ RevAt wr d b N (headR zs j f) ∧ Up b w wr) (fun v _ _ => N - (intOf v).toNat)
  case atStart => exact ⟨0, Nat.zero_le _, rfl, rfl, by rw [headR_zero]; exact HD.out, Up.refl _ _⟩
  case round =>
    obtain ⟨j, hj, rfl, rfl, hdv, hup⟩ := hrel
    have HDV := Lib.hid hdv
    have HUP := Lib.hid hup
    have HIr := Lib.hid (ints_upy hup HB.out HI.out)
    clear hdv hup
    have hs := HDV.out.s
    have HLS := Lib.hid (lcN_succ f j)
    have hlc := lcN_le f j
    by_cases hjN : j < N
    · have c0 := HDV.out.a.c0 j hjN
      have c1 := HDV.out.a.c1 j hjN
      have c2 := HDV.out.a.c2 j hjN
      have c3 := HDV.out.a.c3 j hjN
      have c4 := HDV.out.a.c4 j hjN
      have c5 := HDV.out.a.c5 j hjN
      rw [headR_at] at c0 c1 c2 c3 c4 c5
      have HST := Lib.hid (headR_step zs j f)
      have HCR := Lib.hid (show crR zs f j = crashP (if (f j).loose = true then (zs[lcN f j]?.getD 0) % 3 else 0) (f j) from rfl)
      obtain ⟨x, hx⟩ : ∃ x, f j = x := ⟨_, rfl⟩
      rw [hx] at c0 c1 c2 c3 c4 c5 HLS HCR
      obtain ⟨x0, x1, x2, x3, x4, x5⟩ := x
      dsimp only at c0 c1 c2 c3 c4 c5
      generalize lcN f j = t at *
      have hj0 : (j : Int) < (N : Int) := by omega
      have hjn : (0 : Int) ≤ (j : Int) := by omega
      have hti : (t : Int) ≤ 65536 := by omega
      have hal := (Nw.refl (w := wr)).alloc (.cells #[.int .u64 x0, .int .u64 x1, .bool x2, .bool x3, .int .u64 x5, .bool x4] 132)
      have hbx := Blk.new wr #[.int .u64 x0, .int .u64 x1, .bool x2, .bool x3, .int .u64 x5, .bool x4] 132
      have HRn := Lib.hid (HDV.out.nw hal)
      have HUn := Lib.hid (HUP.out.nw hal)
      have HIn := Lib.hid (HIr.out.below (hal.b.mono HUP.out.size))
      have hbn : wr.heap.size ≠ b := Nat.ne_of_gt HDV.out.blt
      clear hx
      go_upto_region 5 with fail
      generalize wr.alloc (.cells #[.int .u64 x0, .int .u64 x1, .bool x2, .bool x3, .int .u64 x5, .bool x4] 132) = W1 at *
      generalize wr.heap.size = bx at *
      have hsn := HRn.out.s
      have b0 : W1.cell? ⟨bx, 0, none⟩ = some (.int .u64 x0) := hbx.cell rfl
      have b1 : W1.cell? ⟨bx, 1, none⟩ = some (.int .u64 x1) := hbx.cell rfl
      have b2 : W1.cell? ⟨bx, 2, none⟩ = some (.bool x2) := hbx.cell rfl
      have b3 : W1.cell? ⟨bx, 3, none⟩ = some (.bool x3) := hbx.cell rfl
      have b4 : W1.cell? ⟨bx, 4, none⟩ = some (.int .u64 x5) := hbx.cell rfl
      have hd0 := HRn.out.a.c0 j hjN
      have hd1 := HRn.out.a.c1 j hjN
      have hd2 := HRn.out.a.c2 j hjN
      have hd3 := HRn.out.a.c3 j hjN
      have hd4 := HRn.out.a.c4 j hjN
      have hd5 := HRn.out.a.c5 j hjN
      have f0 := HRn.out.a.fr (j * 6)
      have f1 := HRn.out.a.fr (j * 6 + 1)
      have f2 := HRn.out.a.fr (j * 6 + 2)
      have f3 := HRn.out.a.fr (j * 6 + 3)
      have f4 := HRn.out.a.fr (j * 6 + 4)
      have f5 := HRn.out.a.fr (j * 6 + 5)
      have FIN : Hid (∀ v, crR zs f j = ⟨v, v, false, false, false, 0⟩ → RevAt ((((((W1.setCell ⟨b, j * 6, none⟩ (.int .u64 v)).setCell ⟨b, j * 6 + 1, none⟩ (.int .u64 v)).setCell ⟨b, j * 6 + 2, none⟩ (.bool false)).setCell ⟨b, j * 6 + 3, none⟩ (.bool false)).setCell ⟨b, j * 6 + 4, none⟩ (.int .u64 0)).setCell ⟨b, j * 6 + 5, none⟩ (.bool false)) d b N (headR zs (j + 1) f) ∧ Up b w ((((((W1.setCell ⟨b, j * 6, none⟩ (.int .u64 v)).setCell ⟨b, j * 6 + 1, none⟩ (.int .u64 v)).setCell ⟨b, j * 6 + 2, none⟩ (.bool false)).setCell ⟨b, j * 6 + 3, none⟩ (.bool false)).setCell ⟨b, j * 6 + 4, none⟩ (.int .u64 0)).setCell ⟨b, j * 6 + 5, none⟩ (.bool false))) := fun v hv => by
        have ha6 := HRn.out.a.set6 j hjN ⟨v, v, false, false, false, 0⟩
        rw [← hv, HST.out] at ha6
        rw [hv] at ha6
        have hu6 := up_set6 b W1 j (.int .u64 v) (.int .u64 v) (.bool false) (.bool false) (.int .u64 0) (.bool false)
        exact ⟨⟨HRn.out.k.up hu6 HRn.out.ne, ha6, HRn.out.pos, HRn.out.le, HRn.out.by8⟩, HUn.out.trans hu6⟩
      clear c0 c1 c2 c3 c4 c5 hs hal hbx
      dsimp only at HCR HLS
      cases x2
      · have F := Lib.hid (FIN.out x0 (by rw [HCR.out, if_neg (by simp)]; rfl))
        have HL1 := Lib.hid (HLS.out.trans (by rw [if_neg (by simp)]; rfl) : lcN f (j + 1) = t)
        clear FIN HCR HLS
        go_wp2_with fail
        go_roundw
        case rel => exact ⟨j + 1, by omega, by go_num, by rw [HL1.out], F.out.1, F.out.2⟩
        case measure => simp [intOf]; omega
      · have HL1 := Lib.hid (HLS.out.trans (by rw [if_pos rfl]) : lcN f (j + 1) = t + 1)
        rw [if_pos rfl] at HCR
        by_cases htl : t < len
        · obtain ⟨zb, zo, rfl, hzb, p1⟩ := HIn.out.at (j := t) (by rw [HL.out]; exact htl)
          have hzz := HZ.out _ (List.getElem_mem (show t < zs.length by rw [HL.out]; exact htl))
          rw [List.getElem?_eq_getElem (show t < zs.length by rw [HL.out]; exact htl)] at HCR
          simp only [Option.getD_some] at HCR
          generalize zs[t]'(by rw [HL.out]; exact htl) = y at *
          obtain ⟨pq, hpq, hpq2⟩ : ∃ pq : Nat, y.tmod 3 = (pq : Int) ∧ y % 3 = (pq : Int) := ⟨(y % 3).toNat, by rw [Int.tmod_eq_emod_of_nonneg hzz.1]; omega, by omega⟩
          rw [hpq2] at HCR
          have ht0 : (t : Int) < (len : Int) := by omega
          have htn : (0 : Int) ≤ (t : Int) := by omega
          have hp3 : pq < 3 := by omega
          clear hpq2 hzz
          match pq, hp3 with
          | 0, _ =>
            have F := Lib.hid (FIN.out x0 (by rw [HCR.out]; rfl))
            clear FIN HCR HLS
            go_wp2_with fail
            go_roundw
            case rel => exact ⟨j + 1, by omega, by go_num, by rw [HL1.out]; go_num, F.out.1, F.out.2⟩
            case measure => simp [intOf]; omega
          | 1, _ =>
            cases x3
            · have F := Lib.hid (FIN.out x0 (by rw [HCR.out, crashP_eq]; simp [pickV]))
              clear FIN HCR HLS
              go_wp2_with fail
              go_roundw
              case rel => exact ⟨j + 1, by omega, by go_num, by rw [HL1.out]; go_num, F.out.1, F.out.2⟩
              case measure => simp [intOf]; omega
            · have F := Lib.hid (FIN.out x5 (by rw [HCR.out, crashP_eq]; simp [pickV]))
              clear FIN HCR HLS
              go_wp2_with fail
              go_roundw
              case rel => exact ⟨j + 1, by omega, by go_num, by rw [HL1.out]; go_num, F.out.1, F.out.2⟩
              case measure => simp [intOf]; omega
          | 2, _ =>
            have F := Lib.hid (FIN.out x1 (by rw [HCR.out]; rfl))
            clear FIN HCR HLS
            go_wp2_with fail
            go_roundw
            case rel => exact ⟨j + 1, by omega, by go_num, by rw [HL1.out]; go_num, F.out.1, F.out.2⟩
            case measure => simp [intOf]; omega
        · have F := Lib.hid (FIN.out x0 (by rw [HCR.out, List.getElem?_eq_none (by rw [HL.out]; omega)]; rfl))
          have ht0 : (len : Int) ≤ (t : Int) := by omega
          clear FIN HCR HLS
          go_wp2_with fail
          go_roundw
          case rel => exact ⟨j + 1, by omega, by go_num, by rw [HL1.out]; go_num, F.out.1, F.out.2⟩
          case measure => simp [intOf]; omega
    · obtain rfl : j = N := by omega
      have HFE := Lib.hid (HDV.out.congr (g := crR zs f) (fun k hk => if_pos hk))
      go_wp2_with fail
      go_end0
      exact ⟨⟨_, rfl⟩, HFE.out, HUP.out⟩
end Go.Proofs.YtkopfnldgnkkoaaGreat
