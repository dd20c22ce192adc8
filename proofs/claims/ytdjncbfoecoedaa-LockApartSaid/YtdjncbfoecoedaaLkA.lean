/-
  LOCKS: a table in memory; New, at, Holds, Held.
-/
import Derived.Test.YtdjncbfoecoedaaNw
import Derived.ArgAppend
import Derived.Lib.SliceRun
namespace Go.Proofs.Ytdjncbfoecoedaa
open Go.RowKit Go.Shelf
set_option linter.unusedVariables false

/-- A lock: its holder (from 1 on), its queue. -/
structure Lk where
  h : Int
  q : List Int
def freeLk : Lk := ⟨0, []⟩
def updK (s : Nat → Lk) (k : Nat) (x : Lk) : Nat → Lk := fun i => if i = k then x else s i
/-- A queue: a slice of numbers in a block of its own. -/
def Qu (W : World) (a : Option Addr) (c : Nat) (xs : List Int) : Prop :=
  (a = none ∧ xs = [] ∧ c = 0) ∨ ∃ b off, a = some ⟨b, off, none⟩ ∧ b < W.heap.size ∧ xs.length ≤ c ∧ c ≤ maxLen ∧
    (∀ j, j < c → (W.cell? ⟨b, off + j, none⟩).isSome = true) ∧ (∀ j, W.frozen? ⟨b, j, none⟩ = false) ∧ ∀ j (h : j < xs.length), W.cell? ⟨b, off + j, none⟩ = some (.int .i64 xs[j])
theorem Qu.len {W : World} {a : Option Addr} {c : Nat} {xs : List Int} (h : Qu W a c xs) : xs.length ≤ c := by
  rcases h with ⟨_, rfl, rfl⟩ | ⟨_, _, _, _, h, _⟩
  · exact Nat.le_refl _
  · exact h
theorem Qu.ints {W : World} {a : Option Addr} {c : Nat} {xs : List Int} (h : Qu W a c xs) : Ints W.heap.size .i64 W a xs := by
  rcases h with ⟨_, rfl, rfl⟩ | ⟨b, off, e, hb, _, _, _, _, hc⟩
  · exact .inl rfl
  · exact .inr ⟨b, off, e, hb, fun j hj => by rw [hc j hj]; simp [hj]⟩
theorem Qu.upx {W W' : World} {t : Nat} {a : Option Addr} {c : Nat} {xs : List Int} (h : Qu W a c xs) (k : Up t W W') (hn : ∀ p, a = some p → p.block ≠ t) : Qu W' a c xs := by
  rcases h with h | ⟨b, off, rfl, hb, h1, h2, h3, h4, h5⟩
  · exact .inl h
  · have hbt : b ≠ t := hn ⟨b, off, none⟩ rfl
    have hsame : ∀ j, W'.cell? ⟨b, j, none⟩ = W.cell? ⟨b, j, none⟩ := fun j => World.cell?_of_block (w := W) (a := ⟨b, j, none⟩) (k.block b hb hbt)
    exact .inr ⟨b, off, rfl, Nat.lt_of_lt_of_le hb k.size, h1, h2, fun j hj => by rw [hsame]; exact h3 j hj, fun j => (k.frozen (p := ⟨b, j, none⟩) hb hbt).trans (h4 j), fun j hj => by rw [hsame]; exact h5 j hj⟩
theorem Qu.nw {W W' : World} {a : Option Addr} {c : Nat} {xs : List Int} (h : Qu W a c xs) (k : Nw W W') : Qu W' a c xs := by
  refine h.upx (t := W.heap.size) (.of_nw k) (fun p hp => ?_)
  rcases h with ⟨rfl, _⟩ | ⟨b, off, rfl, hb, _⟩
  · cases hp
  · cases hp; exact Nat.ne_of_lt hb
theorem Qu.lt {W : World} {a : Option Addr} {c : Nat} {xs : List Int} (h : Qu W a c xs) : ∀ p, a = some p → p.block < W.heap.size := by
  intro p hp
  rcases h with ⟨rfl, _⟩ | ⟨b, off, rfl, hb, _⟩
  · cases hp
  · cases hp; exact hb

/-- A table of n workers in block t. -/
structure TAt (W : World) (t : Nat) (n : Int) (s : Nat → Lk) (a : Nat → Option Addr) (c : Nat → Nat) : Prop where
  w : W.cell? ⟨t, 0, none⟩ = some (.int .i64 n)
  h : ∀ i, i < 70 → W.cell? ⟨t, 1 + i * 2, none⟩ = some (.int .i64 (s i).h)
  q : ∀ i, i < 70 → W.cell? ⟨t, 1 + i * 2 + 1, none⟩ = some (.slice (a i) (s i).q.length (c i))
  u : ∀ i, i < 70 → Qu W (a i) (c i) (s i).q
  ne : ∀ i, i < 70 → ∀ p, a i = some p → p.block ≠ t
  d : ∀ i j, i < 70 → j < 70 → i ≠ j → ∀ p p', a i = some p → a j = some p' → p.block ≠ p'.block
  fr : ∀ j, W.frozen? ⟨t, j, none⟩ = false
theorem TAt.lt {W : World} {t : Nat} {n : Int} {s : Nat → Lk} {a : Nat → Option Addr} {c : Nat → Nat} (h : TAt W t n s a c) : t < W.heap.size := (cell_lt h.w).1
theorem TAt.nw {W W' : World} {t : Nat} {n : Int} {s : Nat → Lk} {a : Nat → Option Addr} {c : Nat → Nat} (h : TAt W t n s a c) (k : Nw W W') : TAt W' t n s a c :=
  ⟨(k.b.cell (p := ⟨t, 0, none⟩) h.lt).trans h.w, fun i hi => (k.b.cell (p := ⟨t, 1 + i * 2, none⟩) h.lt).trans (h.h i hi), fun i hi => (k.b.cell (p := ⟨t, 1 + i * 2 + 1, none⟩) h.lt).trans (h.q i hi),
    fun i hi => (h.u i hi).nw k, h.ne, h.d, fun j => (k.b.frozen (p := ⟨t, j, none⟩) h.lt).trans (h.fr j)⟩
/-- The blocks that a table owns. -/
def Own (t : Nat) (a : Nat → Option Addr) (k : Nat) : Prop := k = t ∨ ∃ i, i < 70 ∧ ∃ p, a i = some p ∧ p.block = k
theorem TAt.own_lt {W : World} {t : Nat} {n : Int} {s : Nat → Lk} {a : Nat → Option Addr} {c : Nat → Nat} (h : TAt W t n s a c) {k : Nat} (hk : Own t a k) : k < W.heap.size := by
  rcases hk with rfl | ⟨i, hi, p, hp, rfl⟩
  · exact h.lt
  · exact (h.u i hi).lt p hp
/-- Nothing but some blocks, and new memory. -/
structure UpO (O : Nat → Prop) (w w' : World) : Prop where
  os : w'.os = w.os
  tape : w'.tape = w.tape
  output : w'.output = w.output
  size : w.heap.size ≤ w'.heap.size
  block : ∀ k, k < w.heap.size → ¬ O k → w'.heap[k]? = w.heap[k]?
theorem UpO.refl (O : Nat → Prop) (w : World) : UpO O w w := ⟨rfl, rfl, rfl, Nat.le_refl _, fun _ _ _ => rfl⟩
theorem UpO.of_up {O : Nat → Prop} {t : Nat} {a b : World} (h : Up t a b) (ht : O t) : UpO O a b := ⟨h.os, h.tape, h.output, h.size, fun k hk hn => h.block k hk (fun e => hn (e ▸ ht))⟩
theorem UpO.of_nw {O : Nat → Prop} {a b : World} (h : Nw a b) : UpO O a b := ⟨h.b.os, h.b.tape, h.b.output, h.b.size, fun k hk _ => h.b.block k hk⟩
/-- The second step may touch what the first one did, and what is new. -/
theorem UpO.trans {O O' : Nat → Prop} {a b c : World} (h : UpO O a b) (k : UpO O' b c) (ho : ∀ x, O' x → O x ∨ a.heap.size ≤ x) : UpO O a c :=
  ⟨k.os.trans h.os, k.tape.trans h.tape, k.output.trans h.output, Nat.le_trans h.size k.size, fun i hi hn => (k.block i (Nat.lt_of_lt_of_le hi h.size) (fun hx => by rcases ho i hx with h1 | h1; exact hn h1; omega)).trans (h.block i hi hn)⟩
theorem UpO.nw {O : Nat → Prop} {a b c : World} (h : UpO O a b) (k : Nw b c) : UpO O a c := h.trans (O' := fun _ => False) (.of_nw k) (fun _ hx => hx.elim)
theorem UpO.below {O : Nat → Prop} {B : Nat} {w0 a b : World} (k : Below B w0 a) (h : UpO O a b) (hB : B ≤ a.heap.size) (ht : ∀ x, O x → B ≤ x) : Below B w0 b :=
  k.trans ⟨h.os, h.tape, h.output, h.size, fun i hi => h.block i (by omega) (fun hx => by have := ht i hx; omega)⟩
theorem UpO.cell {O : Nat → Prop} {a b : World} (h : UpO O a b) {p : Addr} {v : Value} (hc : a.cell? p = some v) (hn : ¬ O p.block) : b.cell? p = some v :=
  (World.cell?_of_block (w := a) (h.block p.block (cell_lt hc).1 hn)).trans hc

/-! ### New -/
def tabC (n : Int) : Array Value := (Value.int .i64 n :: ((List.replicate 70 [Value.int .i64 0, .slice none 0 0]).flatten)).toArray
theorem wpList_build_as {P : Program} {ops : Array Oper} {rest : List Oper} {o : Oper} {a : Act} {w : World} {Q : Exit → Act → World → Prop} (hg : o.guard = none) (t : TypeId) (parts : Array (Nat × Operand)) (ho : o.op = .build t parts)
    (cs : Array Value) (hf : P.built t (parts.map fun (i, x) => (i, a.eval x)).toList = some cs)
    (h : wpList P ops Q rest (a.put o.dst (.agg cs)) w) : wpList P ops Q (o :: rest) a w :=
  wpList_build hg t parts ho (by rw [hf]; rfl) (by rw [hf]; exact h)
theorem flat_two {α : Type} (x y : α) : ∀ m i, i < m → ((List.replicate m [x, y]).flatten)[i * 2]? = some x ∧ ((List.replicate m [x, y]).flatten)[i * 2 + 1]? = some y
  | 0, i, h => by omega
  | m + 1, 0, h => by simp [List.replicate_succ]
  | m + 1, i + 1, h => by
    have := flat_two x y m i (by omega)
    rw [List.replicate_succ, List.flatten_cons, show (i + 1) * 2 = i * 2 + 1 + 1 by omega]
    simpa using this
theorem tabC_at (n : Int) : (tabC n)[0]? = some (.int .i64 n) ∧ ∀ i, i < 70 → (tabC n)[1 + i * 2]? = some (.int .i64 0) ∧ (tabC n)[1 + i * 2 + 1]? = some (.slice none 0 0) := by
  unfold tabC
  simp only [List.getElem?_toArray]
  refine ⟨rfl, fun i hi => ?_⟩
  rw [show 1 + i * 2 + 1 = (i * 2 + 1) + 1 by omega, Nat.add_comm 1, List.getElem?_cons_succ, List.getElem?_cons_succ]
  exact flat_two _ _ 70 i hi
theorem tat_new (w : World) (n : Int) (t : TypeId) : TAt (w.alloc (.cells (tabC n) t)) w.heap.size n (fun _ => freeLk) (fun _ => none) (fun _ => 0) := by
  have hc : ∀ j v, (tabC n)[j]? = some v → (w.alloc (.cells (tabC n) t)).cell? ⟨w.heap.size, j, none⟩ = some v := fun j v h => by rw [World.cell?_alloc_new]; exact h
  exact ⟨hc _ _ (tabC_at n).1, fun i hi => hc _ _ ((tabC_at n).2 i hi).1, fun i hi => hc _ _ ((tabC_at n).2 i hi).2, fun i hi => .inl ⟨rfl, rfl, rfl⟩, fun i hi p hp => (by cases hp), fun i j _ _ _ p p' hp => (by cases hp), fun j => (by simp [go_sem])⟩
set_option maxRecDepth 100000 in
set_option maxHeartbeats 1000000 in
theorem new_yes (n : Int) (h1 : 1 ≤ n) (h4 : n ≤ 4) (w : World) :
    Calls Try.prog 7 #[.int .i64 n] w fun e w' => e = .returned (.tuple #[.pointer (some ⟨w.heap.size, 0, none⟩), .int .i64 0]) ∧ w' = w.alloc (.cells (tabC n) 49) := by
  have h1' : ¬ n < 1 := by omega
  have h4' : ¬ n > 4 := by omega
  go_enter Try.func7, Try.ntmps7
  go_wp2_with (refine wpList_build_as rfl 49 _ rfl (tabC n) (by kernel_rfl) ?_)
  go_ret2
  exact ⟨rfl, rfl⟩

/-! ### at, Holds -/
set_option maxHeartbeats 1000000 in
theorem at_any (t : Nat) (i : Nat) (hi : i < 70) (w : World) :
    Calls Try.prog 21 #[.pointer (some ⟨t, 0, none⟩), .int .i64 (i : Int)] w fun e w' => e = .returned (.pointer (some ⟨t, 1 + i * 2, none⟩)) ∧ w = w' := by
  have h1 : ¬ ((i : Int) < 0) := by omega
  have h2 : ¬ (70 ≤ (i : Int)) := by omega
  go_enter Try.func21, Try.ntmps21
  go_wp2_with fail
  go_ret
  exact ⟨rfl, rfl⟩
set_option maxHeartbeats 1000000 in
theorem at_out (t : Nat) (i : Int) (hi : i < 0 ∨ 70 ≤ i) (w : World) :
    Calls Try.prog 21 #[.pointer (some ⟨t, 0, none⟩), .int .i64 i] w fun e w' => e = .returned (.pointer none) ∧ w = w' := by
  by_cases h : i < 0
  · go_enter Try.func21, Try.ntmps21
    go_wp2_with fail
    go_ret
    exact ⟨rfl, rfl⟩
  · have h2 : 70 ≤ i := by omega
    go_enter Try.func21, Try.ntmps21
    go_wp2_with fail
    go_ret
    exact ⟨rfl, rfl⟩
set_option maxHeartbeats 1000000 in
theorem holds_any (t : Nat) (n : Int) (s : Nat → Lk) (a : Nat → Option Addr) (c : Nat → Nat) (x : Int) (h0 : 0 ≤ x) (h4 : x < 4) (i : Nat) (hi : i < 70) (w : World) (h : TAt w t n s a c) :
    Calls Try.prog 12 #[.pointer (some ⟨t, 0, none⟩), .int .i64 x, .int .i64 (i : Int)] w fun e w' => e = .returned (.bool ((s i).h == x + 1)) ∧ w = w' := by
  have hc := h.h i hi
  clear h
  go_enter Try.func12, Try.ntmps12
  go_wp2_with fail
  refine (at_any t i hi _).mono ?_
  rintro e w' ⟨rfl, rfl⟩
  go_wp2_with fail
  go_ret
  exact ⟨rfl, rfl⟩

end Go.Proofs.Ytdjncbfoecoedaa
