/-
  PLAIN LEMMAS OF THIS SEAT'S PROOFS, over any program: slices of numbers that are read, and appended from.
-/
import Derived.WalkKit
import Derived.WalkSpells
import Derived.WalkLawsBesides
import Derived.Lib.Hide
import Derived.Laws.AppendOwnNone
import Derived.Laws.CopyOwn
import Derived.Laws.IdiomCopy
import Derived.Deep.QuietTactic
import Derived.BigQuiet
namespace Go.Proofs.YtkopfnldgnkkoaaGreat
open Go.RowKit

/-- A number of 64 bits (its bound behind a name: a great numeral stops the walk). -/
def isU64 (n : Int) : Prop := 0 ≤ n ∧ n ≤ 18446744073709551615
/-- THE SLICE VALUE (a, zs.length, cap) HOLDS THE numbers zs, in a block below n₀; or it is empty. -/
def Ints (n₀ : Nat) (k : IntKind) (W : World) (a : Option Addr) (zs : List Int) : Prop :=
  zs = [] ∨ ∃ b off, a = some ⟨b, off, none⟩ ∧ b < n₀ ∧ ∀ j, j < zs.length → W.cell? ⟨b, off + j, none⟩ = some (.int k (zs[j]?.getD 0))
theorem Ints.below {n₀ : Nat} {k : IntKind} {A B : World} (h : Below n₀ A B) {a : Option Addr} {zs : List Int} : Ints n₀ k A a zs → Ints n₀ k B a zs
  | .inl e => .inl e
  | .inr ⟨b, off, e, hb, hc⟩ => .inr ⟨b, off, e, hb, fun j hj => (h.cell (p := ⟨b, off + j, none⟩) hb).trans (hc j hj)⟩
theorem Ints.mono {n₀ n₁ : Nat} {k : IntKind} {A : World} (h : n₀ ≤ n₁) {a : Option Addr} {zs : List Int} : Ints n₀ k A a zs → Ints n₁ k A a zs
  | .inl e => .inl e
  | .inr ⟨b, off, e, hb, hc⟩ => .inr ⟨b, off, e, Nat.lt_of_lt_of_le hb h, hc⟩

theorem Ints.at {n₀ : Nat} {k : IntKind} {A : World} {a : Option Addr} {zs : List Int} (h : Ints n₀ k A a zs) {j : Nat} (hj : j < zs.length) :
    ∃ b off, a = some ⟨b, off, none⟩ ∧ b < n₀ ∧ A.cell? ⟨b, off + j, none⟩ = some (.int k zs[j]) := by
  rcases h with rfl | ⟨b, off, e, hb, hc⟩
  · simp at hj
  · exact ⟨b, off, e, hb, by rw [hc j hj]; simp [hj]⟩
theorem Ints.take {n₀ : Nat} {k : IntKind} {A : World} {a : Option Addr} {zs : List Int} (m : Nat) : Ints n₀ k A a zs → Ints n₀ k A a (zs.take m)
  | .inl e => .inl (by rw [e]; simp)
  | .inr ⟨b, off, e, hb, hc⟩ => .inr ⟨b, off, e, hb, fun j hj => by
      simp at hj
      rw [hc j (by omega)]
      have : j < m := by omega
      simp [this]⟩
theorem quiet_left {P : Program} {f : FuncId} {args : Array Value} {w : World} {n : Nat} {v : Value}
    (h : Calls P f args (w.drewN n) fun e w' => e = .returned v ∧ w.drewN n = w') : Calls P f args (w.drewN n) fun e w'' => e = .returned v ∧ ∃ m, w'' = w.drewN m :=
  h.mono fun _ _ ⟨he, hm⟩ => ⟨he, n, hm.symm⟩
theorem below_drewN {B : Nat} {a w : World} (h : Below B a w) (n : Nat) : Below B a (w.drewN n) := ⟨h.os, h.tape, h.output, h.size, h.block⟩

theorem results_tmp4 {fn : Func} {t u v x : Tmp} (h : fn.results = #[.tmp t, .tmp u, .tmp v, .tmp x]) (tmps : Array Value) (P : Program) (w : World) :
    (results fn tmps).run P w = .ok (.tuple #[tmps.getD t undef, tmps.getD u undef, tmps.getD v undef, tmps.getD x undef]) w := by simp [results, h]

theorem cell_lt {W : World} {p : Addr} {v : Value} (h : W.cell? p = some v) : p.block < W.heap.size ∧ p.spot = none := by
  unfold World.cell? at h
  cases ho : W.heap[p.block]? with
  | none => simp [ho] at h
  | some o =>
    refine ⟨(Array.getElem?_eq_some_iff.1 ho).1, ?_⟩
    cases o <;> simp_all

/-- WHAT THE WALK IS TOLD OF A SLICE OF INTEGERS THAT CAME IN: it is nil; or it leads to a row of 'cap' cells, the numbers 'zs', within the reach. -/
def IsSl (k : IntKind) (bytes : Nat) (w : World) (a : Option Addr) (len cap : Nat) (zs : List Int) : Prop :=
  (a = none ∧ len = 0 ∧ cap = 0 ∧ zs = []) ∨
  ∃ x, a = some x ∧ len ≤ cap ∧ cap ≤ maxLen ∧ cap * bytes ≤ 140737488351232 ∧ zs.length = cap ∧ (∀ i, i < zs.length → w.cell? (x.add i) = some (.int k (zs.getD i 0))) ∧ ∀ n ∈ zs, (Lit.int k n).wf = true

/-- A slice of integers that came in, as the row's frame tells it. -/
theorem Ints.of_row {k : IntKind} {w : World} {a : Option Addr} {len cap : Nat} {zs : List Int}
    (h : (a = none ∧ len = 0 ∧ cap = 0 ∧ zs = []) ∨ ∃ x, a = some x ∧ len ≤ cap ∧ cap ≤ maxLen ∧ zs.length = cap ∧ (∀ i, i < zs.length → w.cell? (x.add i) = some (.int k (zs.getD i 0))) ∧ ∀ n ∈ zs, (Lit.int k n).wf = true) :
    ∃ ys : List Int, ys.length = len ∧ len ≤ maxLen ∧ Ints w.heap.size k w a ys ∧ ∀ n ∈ ys, (Lit.int k n).wf = true := by
  rcases h with ⟨rfl, rfl, rfl, rfl⟩ | ⟨x, rfl, hl, hm, hz, hc, hw⟩
  · exact ⟨[], rfl, Nat.zero_le _, .inl rfl, by simp⟩
  · refine ⟨zs.take len, by simp; omega, by omega, ?_, fun n hn => hw n (List.mem_of_mem_take hn)⟩
    by_cases h0 : len = 0
    · subst h0; exact .inl (by simp)
    · have h1 := hc 0 (by omega)
      obtain ⟨hb, hs⟩ := cell_lt h1
      obtain ⟨b, off, sp⟩ := x
      simp [Addr.add] at hs hb
      subst hs
      refine .inr ⟨b, off, rfl, hb, fun j hj => ?_⟩
      simp at hj
      have := hc j (by omega)
      rw [Addr.add_lit] at this
      rw [this]
      have : j < len := by omega
      simp [this]

theorem Ints.of_sl {k : IntKind} {bytes : Nat} {w : World} {a : Option Addr} {len cap : Nat} {zs : List Int} (h : IsSl k bytes w a len cap zs) :
    ∃ ys : List Int, ys.length = len ∧ len ≤ cap ∧ len * bytes ≤ 140737488351232 ∧ Ints w.heap.size k w a ys ∧ ∀ n ∈ ys, (Lit.int k n).wf = true := by
  rcases h with h | ⟨x, rfl, hl, hm, hr, hz, hc, hw⟩
  · obtain ⟨ys, h1, _, h2⟩ := Ints.of_row (k := k) (w := w) (.inl h)
    obtain ⟨_, rfl, _, _⟩ := h
    exact ⟨ys, h1, Nat.zero_le _, by omega, h2⟩
  · obtain ⟨ys, h1, _, h2⟩ := Ints.of_row (k := k) (w := w) (.inr ⟨x, rfl, hl, hm, hz, hc, hw⟩)
    exact ⟨ys, h1, hl, Nat.le_trans (Nat.mul_le_mul_right _ hl) hr, h2⟩

section
variable {P : Program} (w : World)
theorem run_append_empty (base : Nat) (t ty e : TypeId) (i : TypeInfo) (size c : Nat) (ht : P.underlying t = some (.slice e)) (hi : P.info? e = some i)
    (v : Value) (n : Nat) (xs : List Value) (hown : w.ownsRow base e size v n xs) (a : Option Addr) :
    (Builtin.append_ #[t, t] ty #[v, .slice a 0 c]).run P w = .ok v w := by
  rcases hown.2 with ⟨rfl, rfl⟩ | ⟨g, cap, cur, rfl, _, _, hnc, _⟩
  · cases a <;> simp [Builtin.append_, run_underlying ht, sizeOf, typeInfo, hi, Builtin.lenOf, Builtin.firstCells, loadCells, loadCellsFrom, Result.andThen]
  · cases a <;> simp [Builtin.append_, run_underlying ht, sizeOf, typeInfo, hi, Builtin.lenOf, Builtin.firstCells, hnc, storeCells, loadCells, loadCellsFrom, Result.andThen]

theorem wpList_append_ints {ops : Array Oper} {rest : List Oper} {o : Oper} {a : Act} {Q : Exit → Act → World → Prop} (hgd : o.guard = none) (s x : Operand) (t : TypeId)
    (ho : o.op = .call { callee := .builtin .append, args := #[s, x], argTypes := #[t, t] })
    (base : Nat) (e : TypeId) (i : TypeInfo) (z : Value) (bytes : Nat) (ht : P.underlying t = some (.slice e)) (hi : P.info? e = some i) (hz : i.zero = some z)
    (hsize : i.size = 1) (hby : i.bytes = bytes) (hzs : z.cells.size = 1)
    (v : Value) (n : Nat) (xs : List Value) (hs : a.eval s = v) (hown : w.ownsRow base e 1 v n xs)
    (ax : Option Addr) (len c : Nat) (k : IntKind) (zs : List Int) (n₀ : Nat) (hx : a.eval x = .slice ax len c) (hl : zs.length = len) (hI : Ints n₀ k w ax zs)
    (h63 : n + len ≤ maxLen) (hbytes : (n + len) * bytes ≤ 140737488355328) (hbase : base ≤ w.heap.size)
    (h : ∀ v' w', w'.ownsRow base e 1 v' (n + len) (xs ++ zs.map (.int k)) → w.grownBy w' v.ownBlock → wpList P ops Q rest (a.put o.dst v') w') : wpList P ops Q (o :: rest) a w := by
  subst hl
  rcases hI with rfl | ⟨b, off, rfl, hb, hc⟩
  · refine wpList_plain hgd fun K hK => ?_
    have hrun := run_append_empty (P := P) w base t o.type e i 1 c ht hi v n xs hown ax
    have h' := h v w (by simpa using hown) ⟨rfl, rfl, rfl, Nat.le_refl _, fun _ _ _ => rfl⟩
    unfold Oper.wp
    simp only [List.length_nil] at hx
    simp [execOp, ho, resolve, invoke, builtin, hs, hx, hrun, Result.andThen]
    exact hK _ _ h'
  · refine wpList_append_own w hgd s x t ho base e i z 1 bytes ht hi hz hsize hby hzs (by decide) v n xs hs hown ⟨b, off, none⟩ zs.length c (zs.map (.int k)) hx (by simp) ?_ (by simp [Value.oneCell']) h63 hbytes hbase (fun v' w' h1 h2 _ => h v' w' h1 h2)
    intro j u hu
    simp at hu
    obtain ⟨y, hy, rfl⟩ := hu
    have hj : j < zs.length := (List.getElem?_eq_some_iff.1 hy).1
    rw [Addr.add_lit, hc j hj, hy]; rfl
end

theorem Ints.one (k : IntKind) (w : World) (x : Int) (t : TypeId) : Ints (w.heap.size + 1) k (w.alloc (.cells #[.int k x] t)) (some ⟨w.heap.size, 0, none⟩) [x] :=
  .inr ⟨_, 0, rfl, Nat.lt_succ_self _, fun j hj => by
    simp at hj; subst hj
    rw [Nat.add_zero, World.cell?_alloc_new]; rfl⟩
theorem Below.grownRow {B : Nat} {a w w' : World} {base : Nat} {e : TypeId} {size : Nat} {v : Value} {n : Nat} {xs : List Value} (h : Below B a w) (hg : w.grownBy w' v.ownBlock) (hB : B ≤ w.heap.size)
    (ho : w.ownsRow base e size v n xs) (hb : B ≤ base) : Below B a w' :=
  h.grown hg hB (fun k e => Nat.le_trans hb (ho.lt k e).1)
theorem own_pos {w : World} {base : Nat} {e : TypeId} {size : Nat} {v : Value} {n : Nat} {xs : List Value} (h : w.ownsRow base e size v n xs) (hn : 0 < n) :
    ∃ g cap, v = .slice (some ⟨g, 0, none⟩) n cap ∧ base ≤ g ∧ g < w.heap.size := by
  rcases h.2 with ⟨_, h0⟩ | ⟨g, cap, _, rfl, hb, hh, _⟩
  · omega
  · exact ⟨g, cap, rfl, hb, (Array.getElem?_eq_some_iff.1 hh).1⟩
theorem own_cell {w : World} {base g : Nat} {e : TypeId} {k : IntKind} {n cap : Nat} {zs : List Int} (h : w.ownsRow base e 1 (.slice (some ⟨g, 0, none⟩) n cap) n (zs.map (.int k))) {j : Nat} (hj : j < n) :
    w.cell? ⟨g, j, none⟩ = some (.int k (zs[j]?.getD 0)) := by
  have hl := h.1
  simp at hl
  rw [h.cellAt j (by omega)]
  simp [show j < zs.length by omega]
theorem own_set {w : World} {base g : Nat} {e : TypeId} {k : IntKind} {n cap : Nat} {zs : List Int} (h : w.ownsRow base e 1 (.slice (some ⟨g, 0, none⟩) n cap) n (zs.map (.int k))) (j : Nat) (x : Int) :
    (w.setCell ⟨g, j, none⟩ (.int k x)).ownsRow base e 1 (.slice (some ⟨g, 0, none⟩) n cap) n ((zs.set j x).map (.int k)) := by
  have := (h.stored j (.int k x)).1
  rwa [← List.map_set] at this

/-- WHAT AN OWNED ROW OF NUMBERS READS AS. -/
theorem Ints.of_owns {w : World} {base : Nat} {e : TypeId} {v : Value} {n : Nat} {k : IntKind} {zs : List Int} (h : w.ownsRow base e 1 v n (zs.map (.int k))) :
    ∃ a cap, v = .slice a n cap ∧ zs.length = n ∧ Ints w.heap.size k w a zs := by
  obtain ⟨hl, h⟩ := h
  simp at hl
  rcases h with ⟨rfl, rfl⟩ | ⟨g, cap, cur, rfl, hg, hh, hn, hm, hs, hx⟩
  · exact ⟨none, 0, rfl, hl, .inl (List.length_eq_zero_iff.1 hl)⟩
  · refine ⟨_, cap, rfl, hl, .inr ⟨g, 0, rfl, (Array.getElem?_eq_some_iff.1 hh).1, fun j hj => ?_⟩⟩
    unfold World.cell?
    simp only [hh, Nat.zero_add, Option.isSome_none, Bool.false_eq_true, if_false]
    have : (cur.toList.take (n * 1))[j]? = (zs.map (Value.int k))[j]? := by rw [hx]
    rw [List.getElem?_take_of_lt (by omega)] at this
    simp at this
    rw [this]
    simp [hj]

/-! ### A ROW OF NUMBERS THAT FILLS ITS BLOCK -/
def Row (w : World) (g : Nat) (t : TypeId) (k : IntKind) (zs : List Int) : Prop := w.heap[g]? = some (.cells (zs.map (Value.int k)).toArray t (0, 0))
theorem Row.lt {w : World} {g : Nat} {t : TypeId} {k : IntKind} {zs : List Int} (h : Row w g t k zs) : g < w.heap.size := (Array.getElem?_eq_some_iff.1 h).1
theorem Row.cell {w : World} {g : Nat} {t : TypeId} {k : IntKind} {zs : List Int} (h : Row w g t k zs) {j : Nat} (hj : j < zs.length) : w.cell? ⟨g, j, none⟩ = some (.int k zs[j]) := by
  rw [cell_of_row w g j _ t (0, 0) h]; simp [hj]
theorem Row.cellD {w : World} {g : Nat} {t : TypeId} {k : IntKind} {zs : List Int} (h : Row w g t k zs) {j : Nat} (hj : j < zs.length) : w.cell? ⟨g, j, none⟩ = some (.int k (zs[j]?.getD 0)) := by
  rw [h.cell hj]; simp [hj]
theorem Row.frozen {w : World} {g : Nat} {t : TypeId} {k : IntKind} {zs : List Int} (h : Row w g t k zs) (j : Nat) : w.frozen? ⟨g, j, none⟩ = false := frozen_of_row w g j _ t h
theorem Row.below {w w' : World} {g : Nat} {t : TypeId} {k : IntKind} {zs : List Int} (h : Row w g t k zs) {B : Nat} (hb : Below B w w') (hg : g < B) : Row w' g t k zs := (hb.block g hg).trans h
theorem Row.drewN {w : World} {g : Nat} {t : TypeId} {k : IntKind} {zs : List Int} (h : Row w g t k zs) (n : Nat) : Row (w.drewN n) g t k zs := h
theorem Row.drew {w : World} {g : Nat} {t : TypeId} {k : IntKind} {zs : List Int} (h : Row w g t k zs) : Row w.drew g t k zs := h
theorem Row.alloc {w : World} {g : Nat} {t : TypeId} {k : IntKind} {zs : List Int} (h : Row w g t k zs) (o : Obj) : Row (w.alloc o) g t k zs := (Below.heap_alloc w o g h.lt).trans h
theorem Row.set {w : World} {g : Nat} {t : TypeId} {k : IntKind} {zs : List Int} (h : Row w g t k zs) (j : Nat) (x : Int) : Row (w.setCell ⟨g, j, none⟩ (.int k x)) g t k (zs.set j x) := by
  unfold Row
  rw [heap_setCell_same w g j _ t (.int k x) h, List.setIfInBounds_toArray, ← List.map_set]
theorem Row.other {w : World} {g : Nat} {t : TypeId} {k : IntKind} {zs : List Int} (h : Row w g t k zs) {a : Addr} (ha : a.block ≠ g) (v : Value) : Row (w.setCell a v) g t k zs := (Below.heap_setCell w a v g (Ne.symm ha)).trans h
theorem Row.ints {w : World} {g : Nat} {t : TypeId} {k : IntKind} {zs : List Int} (h : Row w g t k zs) : Ints w.heap.size k w (some ⟨g, 0, none⟩) zs :=
  .inr ⟨g, 0, rfl, h.lt, fun j hj => by rw [Nat.zero_add]; exact h.cellD hj⟩
theorem Row.of_owns {w : World} {base g : Nat} {t : TypeId} {k : IntKind} {n : Nat} {zs : List Int} (h : w.ownsRow base t 1 (.slice (some ⟨g, 0, none⟩) n n) n (zs.map (.int k))) : Row w g t k zs ∧ base ≤ g ∧ zs.length = n := by
  obtain ⟨hl, h⟩ := h
  simp at hl
  rcases h with ⟨h1, _⟩ | ⟨g', cap, cur, h1, hg, hh, hn, hm, hs, hx⟩
  · cases h1
  · simp only [Value.slice.injEq, Option.some.injEq, Addr.mk.injEq, and_true, true_and] at h1
    obtain ⟨rfl, rfl⟩ := h1
    refine ⟨?_, hg, hl⟩
    unfold Row
    rw [hh]
    congr 2
    apply Array.ext'
    rw [← hx, List.take_of_length_le (by simp; omega)]
theorem made_ints (k : IntKind) (n : Nat) : (madeCells (Value.int k 0).cells (n * 1)).toList = (List.replicate n (0 : Int)).map (Value.int k) := by
  apply List.ext_getElem
  · simp [madeCells]
  · intro i h1 h2
    simp [madeCells, Value.cells, Nat.mod_one]
def spliceI (zs : List Int) (off : Nat) (cs : List Int) : List Int := zs.take off ++ (cs ++ zs.drop (off + cs.length))
theorem splice_map (k : IntKind) (zs : List Int) (off : Nat) (cs : List Int) : splice (zs.map (Value.int k)) off (cs.map (Value.int k)) = (spliceI zs off cs).map (Value.int k) := by
  simp [splice, spliceI]
theorem splice_cons (zs : List Int) (off : Nat) (c : Int) (cs : List Int) (h : off < zs.length) : spliceI zs off (c :: cs) = spliceI (zs.set off c) (off + 1) cs := by
  unfold spliceI
  rw [List.take_succ_eq_append_getElem (by simpa using h), List.take_set_of_le (Nat.le_refl _), List.getElem_set_self, List.drop_set_of_lt (by omega), List.length_cons]
  simp [Nat.add_comm, Nat.add_left_comm]
theorem splice_nil (zs : List Int) (off : Nat) : spliceI zs off [] = zs := by simp [spliceI]

/-! ### LAWS THAT LEAVE THE WORLD A LETTER -/
section
variable {P : Program}
theorem run_storeVar_at (w : World) (b j : Nat) (ty : TypeId) (v : Value) (hi : (P.info? ty).map (·.size) = some 1) (hc : (w.cell? ⟨b, j, none⟩).isSome = true) (hf : w.frozen? ⟨b, j, none⟩ = false)
    (h1 : v.oneCell' = true) : (storeVar ty ⟨b, j, none⟩ v).run P w = .ok () (w.setCell ⟨b, j, none⟩ v) := by
  have := run_storeCells_cells (P := P) b j [v] 0 w (by intro i hi; simp at hi; subst hi; simpa using hc) (by intro i hi; simp at hi; subst hi; simpa using hf) (by simpa using h1)
  have hv : v.cells = #[v] := by cases v <;> first | rfl | cases h1
  cases hq : P.info? ty with
  | none => simp [hq] at hi
  | some i =>
    have hs : i.size = 1 := by simpa [hq] using hi
    simp only [Nat.add_zero] at this
    simp [storeVar, sizeOf, typeInfo, hq, hv, hs, this, World.setCells]
theorem wpList_store_at {ops : Array Oper} {rest : List Oper} {o : Oper} {a : Act} {w : World} {Q : Exit → Act → World → Prop} (hgd : o.guard = none) (ty : TypeId) (x y : Operand) (ho : o.op = .store ty x y)
    (b j : Nat) (v : Value) (hx : a.eval x = .pointer (some ⟨b, j, none⟩)) (hy : a.eval y = v) (h1 : v.oneCell' = true) (hi : (P.info? ty).map (·.size) = some 1)
    (hc : (w.cell? ⟨b, j, none⟩).isSome = true) (hf : w.frozen? ⟨b, j, none⟩ = false)
    (h : ∀ w', w' = w.setCell ⟨b, j, none⟩ v → wpList P ops Q rest (a.put o.dst undef) w') : wpList P ops Q (o :: rest) a w :=
  wpList_plain hgd fun _ hK => by
    unfold Oper.wp execOp
    simp only [ho, hx, hy, Instr.storeAt, Instr.sureAddr, Sem.run_bind, Sem.run_pure, Result.andThen_ok, run_storeVar_at w b j ty v hi hc hf h1]
    exact hK _ _ (h _ rfl)
theorem wpList_store_ints {ops : Array Oper} {rest : List Oper} {o : Oper} {a : Act} {w : World} {Q : Exit → Act → World → Prop} (hgd : o.guard = none) (ty : TypeId) (x y : Operand) (ho : o.op = .store ty x y)
    (b j : Nat) (k : IntKind) (v : Int) (hx : a.eval x = .pointer (some ⟨b, j, none⟩)) (hy : a.eval y = .int k v) (hi : (P.info? ty).map (·.size) = some 1)
    (t : TypeId) (zs : List Int) (hr : Row w b t k zs) (hj : j < zs.length)
    (h : ∀ w', w' = w.setCell ⟨b, j, none⟩ (.int k v) → wpList P ops Q rest (a.put o.dst undef) w') : wpList P ops Q (o :: rest) a w :=
  wpList_store_at hgd ty x y ho b j _ hx hy rfl hi (by rw [hr.cell hj]; rfl) (hr.frozen j) h
/-- 'make([]T, n)' of numbers: a row of noughts. -/
theorem wpList_make_ints {ops : Array Oper} {rest : List Oper} {o : Oper} {a : Act} {w : World} {Q : Exit → Act → World → Prop} (hgd : o.guard = none) (l c : Operand) (t : TypeId) (ho : o.op = .makeSlice t l c)
    (base : Nat) (e : TypeId) (i : TypeInfo) (k : IntKind) (h1 : P.underlying t = some (.slice e)) (h2 : P.info? e = some i) (h3 : i.zero = some (.int k 0)) (h4 : i.size = 1)
    (n : Nat) (hl : a.eval l = .int .i64 (n : Int)) (hc : a.eval c = .int .i64 (n : Int)) (b2 : i.bytes * n ≤ 281474976710656) (b3 : n ≤ maxLen) (b4 : base ≤ w.heap.size)
    (h : ∀ w', Row w' w.heap.size e k (List.replicate n 0) → w.grownBy w' none → wpList P ops Q rest (a.put o.dst (.slice (some ⟨w.heap.size, 0, none⟩) n n)) w') : wpList P ops Q (o :: rest) a w :=
  wpList_make_full w hgd l c t ho base e i (.int k 0) 1 h1 h2 h3 h4 .i64 .i64 _ _ n hl hc rfl rfl b2 b3 b4 fun w' hown hg => by
    rw [made_ints] at hown
    exact h w' (Row.of_owns hown).1 hg
end
theorem wpList_copy_ints {P : Program} {ops : Array Oper} {rest : List Oper} {o : Oper} {a : Act} {w : World} {Q : Exit → Act → World → Prop} (hgd : o.guard = none) (d s : Operand) (dT sT : TypeId)
    (ho : o.op = .call { callee := .builtin .copy, args := #[d, s], argTypes := #[dT, sT] }) (elem : TypeId) (hu : P.underlying dT = some (.slice elem)) (hsz : (P.info? elem).map (·.size) = some 1)
    (dp sp : Option Addr) (dLen dCap sLen sCap : Nat) (hd : a.eval d = .slice dp dLen dCap) (hs : a.eval s = .slice sp sLen sCap)
    (g off : Nat) (hdp : dp = some ⟨g, off, none⟩) (t : TypeId) (k : IntKind) (zs : List Int) (hr : Row w g t k zs) (cs : List Int) (n₀ : Nat) (hI : Ints n₀ k w sp cs) (hl : cs.length = sLen) (hle : sLen ≤ dLen) (hfit : off + sLen ≤ zs.length)
    (h : ∀ w', Row w' g t k (spliceI zs off cs) → Below g w w' → wpList P ops Q rest (a.put o.dst (goInt (cs.length : Nat))) w') : wpList P ops Q (o :: rest) a w := by
  have hm : (cs.map (Value.int k)).length = Nat.min sLen dLen := by rw [List.length_map, hl]; exact (Nat.min_eq_left hle).symm
  refine wpList_copy_splice hgd d s dT sT ho elem hu hsz dp sp dLen dCap sLen sCap hd hs g off (zs.map (Value.int k)) t hr (cs.map (Value.int k)) hm ?_ (by simp only [List.length_map]; omega) (by simp [Value.oneCell']) g w (Below.refl _ _) (Nat.le_refl _) ?_
  · intro hp
    refine ⟨hdp, ?_⟩
    rcases hI with rfl | ⟨b, o', rfl, _, hc⟩
    · simp at hp
    · refine ⟨_, rfl, fun j v hv => ?_⟩
      simp at hv
      obtain ⟨y, hy, rfl⟩ := hv
      have hj : j < cs.length := (List.getElem?_eq_some_iff.1 hy).1
      rw [Addr.add_lit, hc j hj, hy]; rfl
  · intro w' hw' hb
    have e : splice (zs.map (Value.int k)) off (cs.map (Value.int k)) = (spliceI zs off cs).map (Value.int k) := splice_map k zs off cs
    rw [e] at hw'
    have := h w' hw'.out hb
    simpa using this
theorem Below.of_grown {w w' : World} (h : w.grownBy w' none) : Below w.heap.size w w' := (Below.refl _ w).grown h (Nat.le_refl _) (fun k e => by cases e)

end Go.Proofs.YtkopfnldgnkkoaaGreat
