/-
  WHAT IS OF NO PROGRAM: only new memory; one block and new memory; cells.
-/
import Derived.Test.YtkopfnldgnkkoaaProg
import Derived.Test.YtkopfnldgnkkoaaLib
import Derived.Test.YtkopfnldgnkkoaaRangeK
import Derived.Shelf.Abstract
import Derived.Shelf.RegionOpen
import Derived.OwnWalkIn
import Derived.TacticsInMore
import Derived.LoopNIn
import Derived.LoopIn
import Derived.Laws.EntriesVeiled
namespace Go.Proofs.Ytkopfnldgnkkoaa
open Go.RowKit Go.Shelf
set_option linter.unusedVariables false

/-- Only new memory. -/
structure Nw (w0 w : World) : Prop where
  b : Below w0.heap.size w0 w
theorem Nw.alloc {w0 w : World} (h : Nw w0 w) (o : Obj) : Nw w0 (w.alloc o) := ⟨h.b.alloc h.b.size o⟩
theorem Nw.drew {w0 w : World} (h : Nw w0 w) : Nw w0 w.drew := ⟨h.b.drew⟩
theorem Nw.drewN {w0 w : World} (h : Nw w0 w) (n : Nat) : Nw w0 (w.drewN n) := ⟨below_drewN h.b n⟩
theorem Nw.trans {a b c : World} (h : Nw a b) (k : Nw b c) : Nw a c := ⟨h.b.trans (k.b.mono h.b.size)⟩
theorem Nw.refl {w : World} : Nw w w := ⟨Below.refl _ _⟩

/-- Only new memory, and block t. -/
structure Up (t : Nat) (w w' : World) : Prop where
  os : w'.os = w.os
  tape : w'.tape = w.tape
  output : w'.output = w.output
  size : w.heap.size ≤ w'.heap.size
  block : ∀ k, k < w.heap.size → k ≠ t → w'.heap[k]? = w.heap[k]?
theorem Up.refl (t : Nat) (w : World) : Up t w w := ⟨rfl, rfl, rfl, Nat.le_refl _, fun _ _ _ => rfl⟩
theorem Up.trans {t : Nat} {a b c : World} (h : Up t a b) (k : Up t b c) : Up t a c :=
  ⟨k.os.trans h.os, k.tape.trans h.tape, k.output.trans h.output, Nat.le_trans h.size k.size, fun i hi hn => (k.block i (Nat.lt_of_lt_of_le hi h.size) hn).trans (h.block i hi hn)⟩
theorem Up.of_nw {t : Nat} {a b : World} (h : Nw a b) : Up t a b := ⟨h.b.os, h.b.tape, h.b.output, h.b.size, fun k hk _ => h.b.block k hk⟩
theorem Up.nw {t : Nat} {a b c : World} (h : Up t a b) (k : Nw b c) : Up t a c := h.trans (.of_nw k)
theorem Up.set {t : Nat} {a b : World} (h : Up t a b) (j : Nat) (v : Value) : Up t a (b.setCell ⟨t, j, none⟩ v) :=
  h.trans ⟨rfl, rfl, rfl, by simp [World.setCell], fun k _ hn => Below.heap_setCell b ⟨t, j, none⟩ v k hn⟩
theorem Up.alloc {t : Nat} {a b : World} (h : Up t a b) (o : Obj) : Up t a (b.alloc o) := h.nw (Nw.refl.alloc o)
theorem Up.cell {t : Nat} {a b : World} (h : Up t a b) {p : Addr} {v : Value} (hc : a.cell? p = some v) (hn : p.block ≠ t) : b.cell? p = some v :=
  (World.cell?_of_block (w := a) (h.block p.block (cell_lt hc).1 hn)).trans hc
theorem Up.frozen {t : Nat} {a b : World} (h : Up t a b) {p : Addr} (hl : p.block < a.heap.size) (hn : p.block ≠ t) : b.frozen? p = a.frozen? p :=
  World.frozen?_of_block (w := a) (h.block p.block hl hn)
theorem Up.below {t B : Nat} {w0 a b : World} (k : Below B w0 a) (h : Up t a b) (hB : B ≤ a.heap.size) (ht : B ≤ t) : Below B w0 b :=
  k.trans ⟨h.os, h.tape, h.output, h.size, fun i hi => h.block i (by omega) (by omega)⟩

theorem cell_set (W : World) (b j j' : Nat) (v u : Value) (h : W.cell? ⟨b, j, none⟩ = some u) (v' : Value) (hv : if j = j' then v = v' else u = v') : (W.setCell ⟨b, j', none⟩ v).cell? ⟨b, j, none⟩ = some v' := by
  by_cases e : j = j'
  · subst e
    rw [if_pos rfl] at hv
    subst hv
    exact World.cell?_setCell_same' _ _ _ (by rw [h]; rfl)
  · rw [if_neg e] at hv
    subst hv
    exact (World.cell?_setCell_other W ⟨b, j', none⟩ ⟨b, j, none⟩ v (fun h => e (by simpa using h.symm))).trans h
theorem cell_far (W : World) (b b' j j' : Nat) (hb : b ≠ b') (v : Value) : (W.setCell ⟨b', j', none⟩ v).cell? ⟨b, j, none⟩ = W.cell? ⟨b, j, none⟩ :=
  World.cell?_setCell_other W ⟨b', j', none⟩ ⟨b, j, none⟩ v (fun h => hb (by simpa using (congrArg Addr.block h).symm))
theorem up_of_grown {W W' : World} {row : Option Nat} (h : W.grownBy W' row) : Up (row.getD W.heap.size) W W' :=
  ⟨h.os, h.tape, h.output, h.size, fun k hk hn => h.block k hk (fun e => hn (by rw [← e]; rfl))⟩
theorem row_far {B : Nat} {W : World} {row : Option Nat} (hB : B ≤ W.heap.size) (hr : ∀ r, row = some r → B ≤ r ∧ ∃ o : Obj, W.heap[r]? = some o ∧ o.isCells = false) : B ≤ row.getD W.heap.size := by
  cases row with
  | none => exact hB
  | some r => exact (hr r rfl).1
theorem Up.keepsFrom {t B : Nat} {W W' : World} (h : Up t W W') (ht : t < B) : KeepsFrom B W W' :=
  ⟨h.size, fun k o hB hk ho => (h.block k (Array.getElem?_eq_some_iff.1 hk).1 (by omega)).trans hk⟩
theorem info_parts8 {i? : Option TypeInfo} {z : Option Value} {s b : Nat} (h : i?.map (fun i => (i.zero, i.size, i.bytes)) = some (z, s, b)) : ∃ i, i? = some i ∧ i.zero = z ∧ i.size = s ∧ i.bytes = b := by
  cases i? with
  | none => cases h
  | some i =>
    simp only [Option.map_some, Option.some.injEq, Prod.mk.injEq] at h
    exact ⟨i, rfl, h.1, h.2.1, h.2.2⟩
theorem own_below {w w' : World} (hb : Below w.heap.size w w') {base : Nat} {e : TypeId} {size : Nat} {v : Value} {n : Nat} {xs : List Value} (h : w.ownsRow base e size v n xs) : w'.ownsRow base e size v n xs := by
  obtain ⟨h1, h2⟩ := h
  refine ⟨h1, ?_⟩
  rcases h2 with h2 | ⟨g, cap, cur, hv, hg, hh, r⟩
  · exact .inl h2
  · exact .inr ⟨g, cap, cur, hv, hg, (hb.block g (Array.getElem?_eq_some_iff.1 hh).1).trans hh, r⟩
theorem own_cap {w : World} {base : Nat} {e : TypeId} {a : Option Addr} {n m cap : Nat} {xs : List Value} (h : w.ownsRow base e 1 (.slice a n cap) m xs) : n ≤ cap := by
  rcases h.2 with ⟨h1, _⟩ | ⟨g, c, cur, h1, _, _, hn, _⟩
  · cases h1; exact Nat.le_refl _
  · simp only [Value.slice.injEq] at h1; obtain ⟨_, rfl, rfl⟩ := h1; omega
theorem ints_up {m t : Nat} {a b : World} (h : Up t a b) {k : IntKind} {p : Option Addr} {zs : List Int} (ht : m ≤ t) (hI : Ints m k a p zs) : Ints m k b p zs := by
  rcases hI with rfl | ⟨b', off, e, hb, hc⟩
  · exact .inl rfl
  · exact .inr ⟨b', off, e, hb, fun j hj => h.cell (hc j hj) (by show b' ≠ t; omega)⟩
theorem ints_upx {m t : Nat} {a b : World} (h : Up t a b) {k : IntKind} {p : Option Addr} {zs : List Int} (hq : ∀ p', p = some p' → p'.block ≠ t) (hI : Ints m k a p zs) : Ints m k b p zs := by
  rcases hI with rfl | ⟨b', off, e, hb, hc⟩
  · exact .inl rfl
  · exact .inr ⟨b', off, e, hb, fun j hj => h.cell (hc j hj) (hq ⟨b', off, none⟩ e)⟩
theorem ints_upy {m t : Nat} {a b : World} (h : Up t a b) {k : IntKind} {p : Option Addr} {zs : List Int} (hq : zs ≠ [] → ∀ p', p = some p' → p'.block ≠ t) (hI : Ints m k a p zs) : Ints m k b p zs := by
  by_cases hz : zs = []
  · exact .inl hz
  · exact ints_upx h (hq hz) hI
theorem wpIn_merge {F : Fence} {n : Nat} {P : Program} {c : Code} {a : Act} {W : World} {Q : Exit → Act → World → Prop} (W1 : World) (g : Array Value → Array Value)
    (h : c.wpIn F n P (fun e a' w' => e = .normal ∧ a' = { tmps := g a.tmps, defers := a.defers } ∧ w' = W1) a W) (k : Q .normal { tmps := g a.tmps, defers := a.defers } W1) : c.wpIn F n P Q a W :=
  wpIn_mono h (by rintro _ _ _ ⟨rfl, rfl, rfl⟩; exact k)
theorem Ints.nw {n : Nat} {k : IntKind} {A B : World} (h : Nw A B) {a : Option Addr} {zs : List Int} (hI : Ints A.heap.size k A a zs) : Ints B.heap.size k B a zs := (hI.below h.b).mono h.b.size
theorem nw_drewN (w : World) (n : Nat) : Nw w (w.drewN n) := Nw.refl.drewN n
/-- v is handed back; some draws have gone by. -/
def Quietly (v : Value) (w : World) (e : Ending) (w' : World) : Prop := e = .returned v ∧ ∃ n, w' = w.drewN n

theorem Up.putDone {b D : Nat} {w W0 W : World} (h : Up b W0 W) (hN : Nw w W0) (hD : W0.heap.size ≤ D) : Up b w (W.putObj D (.deferred none)) :=
  (Up.of_nw hN).trans ⟨h.os, h.tape, h.output, by have := h.size; simpa [World.putObj] using this, fun k hk hn => (World.putObj_heap_other (by omega)).trans (h.block k hk hn)⟩

end Go.Proofs.Ytkopfnldgnkkoaa
