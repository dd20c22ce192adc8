/-
  THE WALKS OF layout.within, May, rows (the global is not read here).
-/
import Derived.Test.YtkopfnldgnkkoaaProg
import Derived.Test.YtkopfnldgnkkoaaLib
import Derived.Test.YtkopfnldgnkkoaaLyM
namespace Go.Proofs.Ytkopfnldgnkkoaa
open Go.RowKit

/-- FROM w0 ON ONLY NEW MEMORY. -/
structure At (w0 w : World) : Prop where
  b : Below w0.heap.size w0 w
theorem At.alloc {w0 w : World} (h : At w0 w) (o : Obj) : At w0 (w.alloc o) := ⟨h.b.alloc h.b.size o⟩
theorem At.drew {w0 w : World} (h : At w0 w) : At w0 w.drew := ⟨h.b.drew⟩
theorem At.drewN {w0 w : World} (h : At w0 w) (n : Nat) : At w0 (w.drewN n) := ⟨below_drewN h.b n⟩
theorem At.trans {a b c : World} (h : At a b) (k : At b c) : At a c := ⟨h.b.trans (k.b.mono h.b.size)⟩
theorem At.refl {w : World} : At w w := ⟨Below.refl _ _⟩
theorem At.self {w0 w : World} (_h : At w0 w) : At w w := At.refl

/-- A geometry as a value. -/
def gV (g : G) : Value := .agg #[.int .i64 g.w, .int .i64 g.i, .int .i64 g.b]
def inB (n a b : Int) : Bool := decide (a ≤ n ∧ n ≤ b)

/-- A box that holds a geometry. -/
structure Box (w : World) (b : Nat) (g : G) : Prop where
  c0 : w.cell? ⟨b, 0, none⟩ = some (.int .i64 g.w)
  c1 : w.cell? ⟨b, 1, none⟩ = some (.int .i64 g.i)
  c2 : w.cell? ⟨b, 2, none⟩ = some (.int .i64 g.b)
theorem Box.new (w : World) (g : G) (t : TypeId) : Box (w.alloc (.cells #[.int .i64 g.w, .int .i64 g.i, .int .i64 g.b] t)) w.heap.size g :=
  ⟨by simp, by simp, by simp⟩
theorem Box.at {w w1 : World} {b : Nat} {g : G} (h : Box w b g) (k : At w w1) : Box w1 b g :=
  ⟨(k.b.cell (p := ⟨b, 0, none⟩) (cell_lt h.c0).1).trans h.c0, (k.b.cell (p := ⟨b, 1, none⟩) (cell_lt h.c0).1).trans h.c1, (k.b.cell (p := ⟨b, 2, none⟩) (cell_lt h.c0).1).trans h.c2⟩
theorem Box.alloc {w : World} {b : Nat} {g : G} (h : Box w b g) (o : Obj) : Box (w.alloc o) b g := by
  have hb := (cell_lt h.c0).1
  exact ⟨(World.cell?_alloc_past o b 0 hb).trans h.c0, (World.cell?_alloc_past o b 1 hb).trans h.c1, (World.cell?_alloc_past o b 2 hb).trans h.c2⟩

set_option maxHeartbeats 400000 in
theorem within_any (n a b : Int) (w : World) :
    Calls Try.prog 67 #[.int .i64 n, .int .i64 a, .int .i64 b] w fun e w' => e = .returned (.bool (inB n a b)) ∧ w = w' := by
  by_cases h1 : a ≤ n
  · by_cases h2 : n ≤ b
    · have hd : inB n a b = true := by simp [inB, h1, h2]
      rw [hd]; clear hd
      go_enter Try.func67, Try.ntmps67
      go_wp2
      go_ret
      exact ⟨rfl, rfl⟩
    · have hd : inB n a b = false := by simp [inB, h2]
      rw [hd]; clear hd
      go_enter Try.func67, Try.ntmps67
      go_wp2
      go_ret
      exact ⟨rfl, rfl⟩
  · have hd : inB n a b = false := by simp [inB, h1]
    rw [hd]; clear hd
    go_enter Try.func67, Try.ntmps67
    go_wp2
    go_ret
    exact ⟨rfl, rfl⟩

set_option maxHeartbeats 400000 in
theorem may_any {w0 w : World} (g : G) (h : At w0 w) :
    Calls Try.prog 36 #[gV g] w fun e w' => e = .returned (.bool (mayB g)) ∧ At w0 w' := by
  obtain ⟨x, y, z⟩ := g
  unfold gV
  dsimp only
  have hm : mayB ⟨x, y, z⟩ = (inB x 1 4 && inB y 2 64 && inB z 2 512) := by
    rw [Bool.eq_iff_iff, mayB_true]; simp only [mayP, inB, Bool.and_eq_true, decide_eq_true_eq]; omega
  rw [hm]; clear hm
  cases h1 : inB x 1 4
  · have H1 := Lib.hid h1
    clear h1
    go_enter Try.func36, Try.ntmps36
    go_wp2_with (go_at_call 67; refine (within_any _ _ _ _).mono ?_; rintro e w' ⟨rfl, rfl⟩; rw [H1.out])
    go_ret
    exact ⟨rfl, h.alloc _⟩
  · have H1 := Lib.hid h1
    clear h1
    cases h2 : inB y 2 64
    · have H2 := Lib.hid h2
      clear h2
      go_enter Try.func36, Try.ntmps36
      go_wp2_with (go_at_call 67; refine (within_any _ _ _ _).mono ?_; rintro e w' ⟨rfl, rfl⟩; first | rw [H1.out] | rw [H2.out])
      go_ret
      exact ⟨rfl, h.alloc _⟩
    · have H2 := Lib.hid h2
      clear h2
      go_enter Try.func36, Try.ntmps36
      go_wp2_with (go_at_call 67; refine (within_any _ _ _ _).mono ?_; rintro e w' ⟨rfl, rfl⟩; try first | rw [H1.out] | rw [H2.out])
      go_ret
      exact ⟨rfl, h.alloc _⟩

/-- The array of rows, cell by cell. -/
def rowsC (g : G) : Array Value := #[.int .u8 1, .int .i64 8, .int .i64 1, .int .u8 2, .int .i64 64, .int .i64 4, .int .u8 5, .int .i64 208, .int .i64 g.w, .int .u8 6, .int .i64 8, .int .i64 1, .int .u8 7, .int .i64 8, .int .i64 1, .int .u8 8, .int .i64 16, .int .i64 g.i, .int .u8 9, .int .i64 8, .int .i64 g.b]
theorem setRow_alloc (w : World) (old cs : Array Value) (t : TypeId) : (w.alloc (.cells old t)).setRow w.heap.size cs = w.alloc (.cells cs t) := by
  show ({ w with heap := (w.heap.push (.cells old t)).modify w.heap.size _ } : World) = { w with heap := w.heap.push (.cells cs t) }
  congr 1
  apply Array.ext
  · simp
  · intro i h1 h2
    by_cases hi : i = w.heap.size
    · subst hi; simp [Array.getElem_modify_self]
    · rw [Array.getElem_modify_of_ne (Ne.symm hi)]
      simp at h1
      rw [Array.getElem_push_lt (by omega), Array.getElem_push_lt (by omega)]
theorem setRow_alloc2 (w : World) (A : Obj) (old cs : Array Value) (t : TypeId) : ((w.alloc A).alloc (.cells old t)).setRow (w.heap.size + 1) cs = (w.alloc A).alloc (.cells cs t) := by
  have := setRow_alloc (w.alloc A) old cs t
  rwa [World.size_alloc] at this

theorem wpList_build_as {P : Program} {ops : Array Oper} {rest : List Oper} {o : Oper} {a : Act} {w : World} {Q : Exit → Act → World → Prop} (hg : o.guard = none) (t : TypeId) (parts : Array (Nat × Operand)) (ho : o.op = .build t parts)
    (cs : Array Value) (hf : P.built t (parts.map fun (i, x) => (i, a.eval x)).toList = some cs)
    (h : wpList P ops Q rest (a.put o.dst (.agg cs)) w) : wpList P ops Q (o :: rest) a w :=
  wpList_build hg t parts ho (by rw [hf]; rfl) (by rw [hf]; exact h)

set_option maxRecDepth 100000 in
set_option maxHeartbeats 1000000 in
theorem rows_any {w0 w : World} (g : G) (h : At w0 w) :
    Calls Try.prog 41 #[gV g] w fun e w' => e = .returned (.agg (rowsC g)) ∧ At w0 w' := by
  obtain ⟨x, y, z⟩ := g
  unfold gV
  dsimp only
  go_enter Try.func41, Try.ntmps41
  go_wp2_with (first | (refine wpList_build_as rfl 82 _ rfl (rowsC ⟨x, y, z⟩) (by kernel_rfl) ?_) | (refine wpList_store_row rfl 82 (.tmp 2) (.tmp 16) rfl _ (rowsC ⟨x, y, z⟩) rfl rfl 82 _ (heap_alloc2_new _ _ _) (by kernel_rfl) (by rfl) (by simp [rowsC, Value.oneCell']) ?_; rw [setRow_alloc2]))
  refine bodyPost_ret (results_cell_row rfl _ _ _ 82 (rowsC ⟨x, y, z⟩) (0, 0) _ rfl (heap_alloc2_new _ _ _) Try.underlying82 rfl (by kernel_rfl)) rfl ?_
  exact ⟨rfl, (h.alloc _).alloc _⟩

theorem index_row (g : G) {n : Nat} (h : n < 7) (w : World) :
    (Instr.index 82 (.agg (rowsC g)) (.int .i64 (n : Int))).run Try.prog w = .ok (.agg #[.int .u8 (kindN n), .int .i64 (sizeN n), .int .i64 (manyN g n)]) w :=
  match n, h with
  | 0, _ => by kernel_rfl
  | 1, _ => by kernel_rfl
  | 2, _ => by kernel_rfl
  | 3, _ => by kernel_rfl
  | 4, _ => by kernel_rfl
  | 5, _ => by kernel_rfl
  | 6, _ => by kernel_rfl

end Go.Proofs.Ytkopfnldgnkkoaa
