import Derived.RangeFuncNested
import Derived.RangeFuncBound
import Derived.RangeFuncBox
import Derived.RangeFuncCalls
import Derived.RangeFuncLeaves
import Derived.Test.YtkopfnldgnkkoaaGreatProg
import Derived.Test.YtkopfnldgnkkoaaGreatLib
import Derived.Shelf.Abstract
import Derived.Shelf.RegionOpen
import Derived.OwnWalkIn
import Derived.TacticsInMore
import Derived.LoopNIn
import Derived.LoopIn
import Derived.Laws.EntriesVeiled
import Derived.ArgAppend
import Derived.Lib.SliceRun

/-
  A RANGE OVER A FUNCTION WHOSE ITERATOR READS WHAT THE BODY WRITES: the iterator's contract may use the caller's invariant (SeqJ).
  (The proof goes the road of the kit's law for such loops, with the invariant handed to the contract.)
-/
namespace Go.Proofs.YtkopfnldgnkkoaaGreat
open Go.RowKit
set_option linter.unusedVariables false

def SeqJ {α : Type} (F : Fence) (n : Nat) (P : Program) (g : Nat) (lb : Array Value) (encs : α → Array Value) (I : List α → World → Prop) (S Sp : List α → Prop) (N : Nat) (w : World) : Prop :=
  ∀ (l : Nat) (J Jx : List α → World → Prop) (W : World), Below w.heap.size w W → AbidesFrom W.heap.size J → AbidesFrom W.heap.size Jx → (∀ pre W', J pre W' → I pre W') →
    (∀ pre x W1, J pre W1 → pre.length < N → YieldAt F (n - 1) P l (encs x) W1 fun e W' =>
      (e = .returned (.bool true) ∧ J (pre ++ [x]) W') ∨ (e = .returned (.bool false) ∧ Jx (pre ++ [x]) W')) →
    J [] W →
    CallsIn F n P g (#[.func (.yield l) #[] #[]] ++ lb) W fun e W' => (∃ v, e = .returned v) ∧ ((∃ xs, S xs ∧ J xs W') ∨ (∃ pre, Sp pre ∧ Jx pre W'))

/-- How the body of a round may be left. -/
def postJ {α : Type} (B : Nat) (I : List α → World → Prop) (Ix : Code → List α → World → Prop) (xs : List α) (W : World) : Exit → Act → World → Prop
  | .normal, _, W' => KeepsFrom B W W' ∧ I xs W'
  | .ret, _, W' => KeepsFrom B W W' ∧ Ix .ret xs W'
  | .exit id, _, W' => KeepsFrom B W W' ∧ Ix (.exit id) xs W'
  | .goto t, _, W' => KeepsFrom B W W' ∧ Ix (.goto t) xs W'
  | .panic _, _, _ => False
  | .outgrown, _, _ => False

section
variable {F : Fence} {n : Nat} {P : Program}
theorem wpIn_range_J {α : Type} {g : Operand} {ps : Array Tmp} {assign body : Code} {Q : Exit → Act → World → Prop} {a : Act} {w : World}
    (hro : F.round = none) (h1 : 1 ≤ n) {gf : Nat} {lb : Array Value} (hg : a.eval g = .func (.func gf) #[] lb) (hFg : F.fn gf) (eg : ∀ args w, (callFunc gf args).run P w = .ok (.enter gf args) w)
    {encs : α → Array Value} {S Sp : List α → Prop} {N : Nat} {w0 : World} (hb0 : Below w0.heap.size w0 w) (hps : ∀ x, (encs x).size = ps.size)
    (I : List α → World → Prop) (Ix : Code → List α → World → Prop) (hseq : SeqJ F (n - 1) P gf lb encs I S Sp N w0) (hI : OwnFrom w.heap.size I) (hIx : ∀ c, OwnFrom w.heap.size (Ix c)) (h0 : I [] w)
    (Ax : α → Act → World → Prop) (hAx : ∀ x a', OwnFrom w.heap.size (fun (_ : Unit) W => Ax x a' W))
    (hassign : ∀ (l : Nat) (pre : List α) (x : α) (W : World) (K : Act → World → Prop), I pre W → (∀ a' W', KeepsFrom w.heap.size W W' → I pre W' → Ax x a' W' → K a' W') →
      assign.wpIn (F.inRound l) (n - 1 - 1) P (Exit.then K (fun _ _ _ => False)) { tmps := (ps.zip (encs x)).foldl (fun t (p, v) => t.setIfInBounds p v) a.tmps, defers := [] } W)
    (hbody : ∀ (l : Nat) (pre : List α) (x : α) (a' : Act) (W : World), w.heap.size ≤ l → (∃ r, W.heap[l]? = some (.loop r)) → I pre W → Ax x a' W → pre.length < N → body.wpIn (F.inRound l) (n - 1 - 1) P (postJ w.heap.size I Ix (pre ++ [x]) W) a' W)
    (hdone : ∀ (D : Nat) (xs : List α) (W : World), w.heap.size ≤ D → S xs → I xs W → W.heap[D]? = some (.deferred (some [])) → Q .normal { a with defers := { target := .collected D, args := #[] } :: a.defers } W)
    (hstop : ∀ (D : Nat) (c : Code) (pre : List α) (W : World), w.heap.size ≤ D → Sp pre → Ix c pre W → W.heap[D]? = some (.deferred (some [])) → c.wpIn F n P Q { a with defers := { target := .collected D, args := #[] } :: a.defers } W) :
    (Code.rangeFunc g ps assign body).wpIn F n P Q a w := by
  refine wpIn_rangeFunc fun fn hfn => ?_
  rw [hro]
  obtain ⟨D, hD⟩ : ∃ D, w.heap.size = D := ⟨_, rfl⟩
  obtain ⟨rec, hrec⟩ : ∃ rec : LoopState → Option Code → Loop, rec = fun st pe => { state := st, pending := pe, fn, tmps := a.tmps, params := ps, assign, body, defers := D } := ⟨_, rfl⟩
  obtain ⟨W1, hW1⟩ : ∃ W1, (w.alloc (.deferred (some []))).alloc (.loop (rec .ready none)) = W1 := ⟨_, rfl⟩
  have hs1 : W1.heap.size = D + 2 := by rw [← hW1]; simp [hD]
  have hL1 : W1.heap[D + 1]? = some (.loop (rec .ready none)) := by
    rw [← hW1, ← hD]; have := World.alloc_heap_new (w.alloc (.deferred (some []))) (.loop (rec .ready none)); rwa [World.size_alloc] at this
  have hK1 : W1.heap[D]? = some (.deferred (some [])) := by
    rw [← hW1, ← hD]; exact (Below.heap_alloc _ _ _ (by simp)).trans (World.alloc_heap_new w _)
  have hI1 : I [] W1 := by rw [← hW1]; exact hI.alloc _ (hI.alloc _ h0)
  have hb1 : Below w0.heap.size w0 W1 := by
    rw [← hW1]; exact hb0.trans ((((Below.refl _ w).alloc (Nat.le_refl _) _).alloc (by simp) _).mono hb0.size)
  have hnw : ∀ {A : World} {row : Option Nat}, (∀ r, row = some r → W1.heap.size ≤ r ∧ ∃ o : Obj, A.heap[r]? = some o ∧ o.isWalk = true) → ∀ r, row = some r → w.heap.size ≤ r ∧ ∃ o : Obj, A.heap[r]? = some o ∧ o.isCells = false := by
    intro A row hr r e
    obtain ⟨hB, o, ho, hw⟩ := hr r e
    exact ⟨by omega, o, ho, Obj.not_cells_of_walk hw⟩
  refine ⟨D + 1, [{ target := .collected D, args := #[] }], W1, { target := .fn (.func gf) lb, args := #[.func (.yield (D + 1)) #[] #[]] }, W1, gf, #[.func (.yield (D + 1)) #[] #[]] ++ lb, W1, ?_, ?_, ?_, ?_, fun _ => h1, ?_⟩
  · rw [← hW1, hrec, ← hD]; exact run_enterLoop_outer _ _ _ _ _
  · simp only [resolve, hg]
    simp [go_sem]
  · intro f' hf'; simp [Target.leads] at hf'; subst hf'; exact hFg
  · simp [invoke, go_sem, eg]
  refine (hseq (D + 1) (fun pre W => I pre W ∧ W.heap[D + 1]? = some (.loop (rec .ready none)) ∧ W.heap[D]? = some (.deferred (some [])))
    (fun pre W => ∃ c, Ix c pre W ∧ W.heap[D + 1]? = some (.loop (rec .done (some c))) ∧ W.heap[D]? = some (.deferred (some []))) W1 hb1 ?_ ?_ (fun pre W' h => h.1) ?_ ⟨hI1, hL1, hK1⟩).mono ?_
  · intro s A B row hs hg' hr
    exact ⟨hI s A B row hs.1 hg' (hnw hr), (grownBy_keeps hg' (fun r e => (hr r e).2) hs.2.1 rfl).trans hs.2.1, (grownBy_keeps hg' (fun r e => (hr r e).2) hs.2.2 rfl).trans hs.2.2⟩
  · intro s A B row hs hg' hr
    obtain ⟨c, hc, hl, hk⟩ := hs
    exact ⟨c, hIx c s A B row hc hg' (hnw hr), (grownBy_keeps hg' (fun r e => (hr r e).2) hl rfl).trans hl, (grownBy_keeps hg' (fun r e => (hr r e).2) hk rfl).trans hk⟩
  · -- a round
    rintro pre x W ⟨hi, hl, hk⟩ hlen
    have hlt : D + 1 < W.heap.size := (Array.getElem?_eq_some_iff.1 hl).1
    have hy := run_yield (P := P) (args := encs x) hl (by rw [hrec]; exact hps x)
    rw [hrec] at hy
    refine ⟨fn, _, assign, body, hy, roundIn_of_wpIn hfn (hassign _ pre x W _ hi fun a' Wa hkf hia hax => ?_)⟩
    have hla := hkf.same _ _ (by omega) hl rfl
    have hka := hkf.same _ _ (by omega) hk rfl
    have hlta := (Array.getElem?_eq_some_iff.1 hla).1
    obtain ⟨V, hV⟩ : ∃ V, Wa.putObj (D + 1) (.loop { rec .ready none with state := .busy }) = V := ⟨_, rfl⟩
    have hVl : V.heap[D + 1]? = some (.loop { rec .ready none with state := .busy }) := by rw [← hV]; exact World.putObj_heap_same hlta
    have hVk : V.heap[D]? = some (.deferred (some [])) := by rw [← hV]; exact (World.putObj_heap_other (by omega)).trans hka
    have hVi : I pre V := by rw [← hV]; exact hI.putObj _ hia (by omega) hla rfl
    have hVa : Ax x a' V := by rw [← hV]; exact (hAx x a').putObj (s := ()) _ hax (by omega) hla rfl
    have fin : ∀ (jump : Option Code) (X : World), KeepsFrom w.heap.size V X →
        (Instr.endRound (D + 1) jump).run P X = .ok (.bool jump.isNone) (X.putObj (D + 1) (.loop (rec (if jump.isNone then .ready else .done) jump))) ∧
        X.heap[D + 1]? = some (.loop { rec .ready none with state := .busy }) ∧
        (X.putObj (D + 1) (.loop (rec (if jump.isNone then .ready else .done) jump))).heap[D + 1]? = some (.loop (rec (if jump.isNone then .ready else .done) jump)) ∧
        (X.putObj (D + 1) (.loop (rec (if jump.isNone then .ready else .done) jump))).heap[D]? = some (.deferred (some [])) := by
      intro jump X hX
      have hl3 := hX.same _ _ (by omega) hVl rfl
      have hk3 := hX.same _ _ (by omega) hVk rfl
      have he := run_endRound (P := P) jump hl3
      rw [hrec] at he ⊢
      rw [hrec] at hl3
      exact ⟨he, hl3, World.putObj_heap_same (Array.getElem?_eq_some_iff.1 hl3).1, (World.putObj_heap_other (by omega)).trans hk3⟩
    refine ⟨V, by rw [← hV]; exact run_beginRound hla (by rw [hrec]), ?_⟩
    refine wpIn_mono (hbody _ pre x a' V (by omega) ⟨_, hVl⟩ hVi hVa hlen) ?_
    have stopped : ∀ (c : Code) (X : World), KeepsFrom w.heap.size V X → Ix c (pre ++ [x]) X → ∃ X', (Instr.endRound (D + 1) (some c)).run P X = .ok (.bool false) X' ∧ ∃ c, Ix c (pre ++ [x]) X' ∧ X'.heap[D + 1]? = some (.loop (rec .done (some c))) ∧ X'.heap[D]? = some (.deferred (some [])) := by
      intro c X hX hx
      obtain ⟨h1, h2, h3, h4⟩ := fin (some c) X hX
      exact ⟨_, h1, c, (hIx c).putObj _ hx (by omega) h2 rfl, h3, h4⟩
    rintro e a3 X hp
    cases e with
    | normal =>
      obtain ⟨hX, hx⟩ := hp
      obtain ⟨h1, h2, h3, h4⟩ := fin none X hX
      exact ⟨_, _, h1, .inl ⟨rfl, hI.putObj _ hx (by omega) h2 rfl, h3, h4⟩⟩
    | ret =>
      obtain ⟨X', h1, h2⟩ := stopped .ret X hp.1 hp.2
      exact ⟨_, _, h1, .inr ⟨rfl, h2⟩⟩
    | exit id =>
      obtain ⟨X', h1, h2⟩ := stopped (.exit id) X hp.1 hp.2
      exact ⟨_, _, h1, .inr ⟨rfl, h2⟩⟩
    | goto t =>
      obtain ⟨X', h1, h2⟩ := stopped (.goto t) X hp.1 hp.2
      exact ⟨_, _, h1, .inr ⟨rfl, h2⟩⟩
    | panic ch => exact hp.elim
    | outgrown => exact hp.elim
  · rintro e X ⟨⟨v, rfl⟩, h⟩
    rcases h with ⟨xs, hS, hi, hl, hk⟩ | ⟨pre, hSp, c, hi, hl, hk⟩
    · have he := run_endLoop (P := P) hl (by rw [hrec]; simp)
      rw [hrec] at he
      exact ⟨none, _, he, hdone D xs _ (by omega) hS (hI.putObj _ hi (by omega) hl rfl) ((World.putObj_heap_other (by omega)).trans hk)⟩
    · have he := run_endLoop (P := P) hl (by rw [hrec]; simp)
      rw [hrec] at he
      exact ⟨some c, _, he, hstop D c pre _ (by omega) hSp ((hIx c).putObj _ hi (by omega) hl rfl) ((World.putObj_heap_other (by omega)).trans hk)⟩
end

end Go.Proofs.YtkopfnldgnkkoaaGreat

/-
  RangeJ's law with the activation of a round given as a function of the element.
-/
namespace Go.Proofs.YtkopfnldgnkkoaaGreat
open Go.RowKit
set_option linter.unusedVariables false

section
variable {F : Fence} {n : Nat} {P : Program}
theorem wpIn_range_K {α : Type} {g : Operand} {ps : Array Tmp} {assign body : Code} {Q : Exit → Act → World → Prop} {a : Act} {w : World}
    (hro : F.round = none) (h1 : 1 ≤ n) {gf : Nat} {lb : Array Value} (hg : a.eval g = .func (.func gf) #[] lb) (hFg : F.fn gf) (eg : ∀ args w, (callFunc gf args).run P w = .ok (.enter gf args) w)
    {encs : α → Array Value} {S Sp : List α → Prop} {N : Nat} (hps : ∀ x, (encs x).size = ps.size)
    (I : List α → World → Prop) (Ix : Code → List α → World → Prop) (hseq : SeqJ F (n - 1) P gf lb encs I S Sp N w) (hI : OwnFrom w.heap.size I) (hIx : ∀ c, OwnFrom w.heap.size (Ix c)) (h0 : I [] w)
    (gx : α → Array Value → Array Value)
    (hassign : ∀ (l : Nat) (pre : List α) (x : α) (W : World) (K : Act → World → Prop), I pre W → K { tmps := gx x ((ps.zip (encs x)).foldl (fun t (p, v) => t.setIfInBounds p v) a.tmps), defers := [] } W →
      assign.wpIn (F.inRound l) (n - 1 - 1) P (Exit.then K (fun _ _ _ => False)) { tmps := (ps.zip (encs x)).foldl (fun t (p, v) => t.setIfInBounds p v) a.tmps, defers := [] } W)
    (hbody : ∀ (l : Nat) (pre : List α) (x : α) (W : World), w.heap.size ≤ l → (∃ r, W.heap[l]? = some (.loop r)) → I pre W → pre.length < N → body.wpIn (F.inRound l) (n - 1 - 1) P (postJ w.heap.size I Ix (pre ++ [x]) W) { tmps := gx x ((ps.zip (encs x)).foldl (fun t (p, v) => t.setIfInBounds p v) a.tmps), defers := [] } W)
    (hdone : ∀ (D : Nat) (xs : List α) (W : World), w.heap.size ≤ D → S xs → I xs W → W.heap[D]? = some (.deferred (some [])) → Q .normal { a with defers := { target := .collected D, args := #[] } :: a.defers } W)
    (hstop : ∀ (D : Nat) (c : Code) (pre : List α) (W : World), w.heap.size ≤ D → Sp pre → Ix c pre W → W.heap[D]? = some (.deferred (some [])) → c.wpIn F n P Q { a with defers := { target := .collected D, args := #[] } :: a.defers } W) :
    (Code.rangeFunc g ps assign body).wpIn F n P Q a w :=
  wpIn_range_J hro h1 hg hFg eg (Below.refl _ _) hps I Ix hseq hI hIx h0
    (fun x a' _ => a' = { tmps := gx x ((ps.zip (encs x)).foldl (fun t (p, v) => t.setIfInBounds p v) a.tmps), defers := [] })
    (fun _ _ _ _ _ _ hs _ _ => hs)
    (fun l pre x W K hi hK => hassign l pre x W K hi (hK _ W (KeepsFrom.refl _ _) hi rfl))
    (fun l pre x a' W hl hr hi ha hlt => by subst ha; exact hbody l pre x W hl hr hi hlt)
    hdone hstop
end

end Go.Proofs.YtkopfnldgnkkoaaGreat

/-
  WHAT IS OF NO PROGRAM: only new memory; one block and new memory; cells.
-/
namespace Go.Proofs.YtkopfnldgnkkoaaGreat
open Go.RowKit Go.Shelf
set_option linter.unusedVariables false

/-- Only new memory. -/
structure Nw (w0 w : World) : Prop where
  b : Below w0.heap.size w0 w
theorem Nw.alloc {w0 w : World} (h : Nw w0 w) (o : Obj) : Nw w0 (w.alloc o) := ⟨h.b.alloc h.b.size o⟩
theorem Nw.drew {w0 w : World} (h : Nw w0 w) : Nw w0 w.drew := ⟨h.b.drew⟩
theorem Nw.drewN {w0 w : World} (h : Nw w0 w) (n : Nat) : Nw w0 (w.drewN n) := ⟨below_drewN h.b n⟩
theorem Nw.trans {a b c : World} (h : Nw a b) (k : Nw b c) : Nw a c := ⟨h.b.trans (k.b.mono h.b.size)⟩
theorem Nw.refl {w : World} : Nw w w := ⟨Below.refl _ _⟩

/-- Only new memory, and block t. -/
structure Up (t : Nat) (w w' : World) : Prop where
  os : w'.os = w.os
  tape : w'.tape = w.tape
  output : w'.output = w.output
  size : w.heap.size ≤ w'.heap.size
  block : ∀ k, k < w.heap.size → k ≠ t → w'.heap[k]? = w.heap[k]?
theorem Up.refl (t : Nat) (w : World) : Up t w w := ⟨rfl, rfl, rfl, Nat.le_refl _, fun _ _ _ => rfl⟩
theorem Up.trans {t : Nat} {a b c : World} (h : Up t a b) (k : Up t b c) : Up t a c :=
  ⟨k.os.trans h.os, k.tape.trans h.tape, k.output.trans h.output, Nat.le_trans h.size k.size, fun i hi hn => (k.block i (Nat.lt_of_lt_of_le hi h.size) hn).trans (h.block i hi hn)⟩
theorem Up.of_nw {t : Nat} {a b : World} (h : Nw a b) : Up t a b := ⟨h.b.os, h.b.tape, h.b.output, h.b.size, fun k hk _ => h.b.block k hk⟩
theorem Up.nw {t : Nat} {a b c : World} (h : Up t a b) (k : Nw b c) : Up t a c := h.trans (.of_nw k)
theorem Up.set {t : Nat} {a b : World} (h : Up t a b) (j : Nat) (v : Value) : Up t a (b.setCell ⟨t, j, none⟩ v) :=
  h.trans ⟨rfl, rfl, rfl, by simp [World.setCell], fun k _ hn => Below.heap_setCell b ⟨t, j, none⟩ v k hn⟩
theorem Up.alloc {t : Nat} {a b : World} (h : Up t a b) (o : Obj) : Up t a (b.alloc o) := h.nw (Nw.refl.alloc o)
theorem Up.cell {t : Nat} {a b : World} (h : Up t a b) {p : Addr} {v : Value} (hc : a.cell? p = some v) (hn : p.block ≠ t) : b.cell? p = some v :=
  (World.cell?_of_block (w := a) (h.block p.block (cell_lt hc).1 hn)).trans hc
theorem Up.frozen {t : Nat} {a b : World} (h : Up t a b) {p : Addr} (hl : p.block < a.heap.size) (hn : p.block ≠ t) : b.frozen? p = a.frozen? p :=
  World.frozen?_of_block (w := a) (h.block p.block hl hn)
theorem Up.below {t B : Nat} {w0 a b : World} (k : Below B w0 a) (h : Up t a b) (hB : B ≤ a.heap.size) (ht : B ≤ t) : Below B w0 b :=
  k.trans ⟨h.os, h.tape, h.output, h.size, fun i hi => h.block i (by omega) (by omega)⟩

theorem cell_set (W : World) (b j j' : Nat) (v u : Value) (h : W.cell? ⟨b, j, none⟩ = some u) (v' : Value) (hv : if j = j' then v = v' else u = v') : (W.setCell ⟨b, j', none⟩ v).cell? ⟨b, j, none⟩ = some v' := by
  by_cases e : j = j'
  · subst e
    rw [if_pos rfl] at hv
    subst hv
    exact World.cell?_setCell_same' _ _ _ (by rw [h]; rfl)
  · rw [if_neg e] at hv
    subst hv
    exact (World.cell?_setCell_other W ⟨b, j', none⟩ ⟨b, j, none⟩ v (fun h => e (by simpa using h.symm))).trans h
theorem cell_far (W : World) (b b' j j' : Nat) (hb : b ≠ b') (v : Value) : (W.setCell ⟨b', j', none⟩ v).cell? ⟨b, j, none⟩ = W.cell? ⟨b, j, none⟩ :=
  World.cell?_setCell_other W ⟨b', j', none⟩ ⟨b, j, none⟩ v (fun h => hb (by simpa using (congrArg Addr.block h).symm))
theorem up_of_grown {W W' : World} {row : Option Nat} (h : W.grownBy W' row) : Up (row.getD W.heap.size) W W' :=
  ⟨h.os, h.tape, h.output, h.size, fun k hk hn => h.block k hk (fun e => hn (by rw [← e]; rfl))⟩
theorem row_far {B : Nat} {W : World} {row : Option Nat} (hB : B ≤ W.heap.size) (hr : ∀ r, row = some r → B ≤ r ∧ ∃ o : Obj, W.heap[r]? = some o ∧ o.isCells = false) : B ≤ row.getD W.heap.size := by
  cases row with
  | none => exact hB
  | some r => exact (hr r rfl).1
theorem Up.keepsFrom {t B : Nat} {W W' : World} (h : Up t W W') (ht : t < B) : KeepsFrom B W W' :=
  ⟨h.size, fun k o hB hk ho => (h.block k (Array.getElem?_eq_some_iff.1 hk).1 (by omega)).trans hk⟩
theorem info_parts8 {i? : Option TypeInfo} {z : Option Value} {s b : Nat} (h : i?.map (fun i => (i.zero, i.size, i.bytes)) = some (z, s, b)) : ∃ i, i? = some i ∧ i.zero = z ∧ i.size = s ∧ i.bytes = b := by
  cases i? with
  | none => cases h
  | some i =>
    simp only [Option.map_some, Option.some.injEq, Prod.mk.injEq] at h
    exact ⟨i, rfl, h.1, h.2.1, h.2.2⟩
theorem own_below {w w' : World} (hb : Below w.heap.size w w') {base : Nat} {e : TypeId} {size : Nat} {v : Value} {n : Nat} {xs : List Value} (h : w.ownsRow base e size v n xs) : w'.ownsRow base e size v n xs := by
  obtain ⟨h1, h2⟩ := h
  refine ⟨h1, ?_⟩
  rcases h2 with h2 | ⟨g, cap, cur, hv, hg, hh, r⟩
  · exact .inl h2
  · exact .inr ⟨g, cap, cur, hv, hg, (hb.block g (Array.getElem?_eq_some_iff.1 hh).1).trans hh, r⟩
theorem own_cap {w : World} {base : Nat} {e : TypeId} {a : Option Addr} {n m cap : Nat} {xs : List Value} (h : w.ownsRow base e 1 (.slice a n cap) m xs) : n ≤ cap := by
  rcases h.2 with ⟨h1, _⟩ | ⟨g, c, cur, h1, _, _, hn, _⟩
  · cases h1; exact Nat.le_refl _
  · simp only [Value.slice.injEq] at h1; obtain ⟨_, rfl, rfl⟩ := h1; omega
theorem ints_up {m t : Nat} {a b : World} (h : Up t a b) {k : IntKind} {p : Option Addr} {zs : List Int} (ht : m ≤ t) (hI : Ints m k a p zs) : Ints m k b p zs := by
  rcases hI with rfl | ⟨b', off, e, hb, hc⟩
  · exact .inl rfl
  · exact .inr ⟨b', off, e, hb, fun j hj => h.cell (hc j hj) (by show b' ≠ t; omega)⟩
theorem ints_upx {m t : Nat} {a b : World} (h : Up t a b) {k : IntKind} {p : Option Addr} {zs : List Int} (hq : ∀ p', p = some p' → p'.block ≠ t) (hI : Ints m k a p zs) : Ints m k b p zs := by
  rcases hI with rfl | ⟨b', off, e, hb, hc⟩
  · exact .inl rfl
  · exact .inr ⟨b', off, e, hb, fun j hj => h.cell (hc j hj) (hq ⟨b', off, none⟩ e)⟩
theorem ints_upy {m t : Nat} {a b : World} (h : Up t a b) {k : IntKind} {p : Option Addr} {zs : List Int} (hq : zs ≠ [] → ∀ p', p = some p' → p'.block ≠ t) (hI : Ints m k a p zs) : Ints m k b p zs := by
  by_cases hz : zs = []
  · exact .inl hz
  · exact ints_upx h (hq hz) hI
theorem wpIn_merge {F : Fence} {n : Nat} {P : Program} {c : Code} {a : Act} {W : World} {Q : Exit → Act → World → Prop} (W1 : World) (g : Array Value → Array Value)
    (h : c.wpIn F n P (fun e a' w' => e = .normal ∧ a' = { tmps := g a.tmps, defers := a.defers } ∧ w' = W1) a W) (k : Q .normal { tmps := g a.tmps, defers := a.defers } W1) : c.wpIn F n P Q a W :=
  wpIn_mono h (by rintro _ _ _ ⟨rfl, rfl, rfl⟩; exact k)
theorem Ints.nw {n : Nat} {k : IntKind} {A B : World} (h : Nw A B) {a : Option Addr} {zs : List Int} (hI : Ints A.heap.size k A a zs) : Ints B.heap.size k B a zs := (hI.below h.b).mono h.b.size
theorem nw_drewN (w : World) (n : Nat) : Nw w (w.drewN n) := Nw.refl.drewN n
/-- v is handed back; some draws have gone by. -/
def Quietly (v : Value) (w : World) (e : Ending) (w' : World) : Prop := e = .returned v ∧ ∃ n, w' = w.drewN n

theorem Up.putDone {b D : Nat} {w W0 W : World} (h : Up b W0 W) (hN : Nw w W0) (hD : W0.heap.size ≤ D) : Up b w (W.putObj D (.deferred none)) :=
  (Up.of_nw hN).trans ⟨h.os, h.tape, h.output, by have := h.size; simpa [World.putObj] using this, fun k hk hn => (World.putObj_heap_other (by omega)).trans (h.block k hk hn)⟩

end Go.Proofs.YtkopfnldgnkkoaaGreat

/-
  WHAT IS OF NO PROGRAM: blocks, their kinds; what stays when some blocks change; slices in blocks of their own.
-/
namespace Go.Proofs.YtkopfnldgnkkoaaGreat
open Go.RowKit Go.Shelf
set_option linter.unusedVariables false

/-- Block k holds these cells. -/
def Blk (w : World) (k : Nat) (cs : Array Value) (t : TypeId) : Prop := w.heap[k]? = some (.cells cs t (0, 0))
/-- Block k holds cells of a kind. -/
def Tag (w : World) (k : Nat) (t : TypeId) : Prop := ∃ cs, Blk w k cs t
section
variable {w : World} {k k' : Nat} {cs cs' : Array Value} {t t' : TypeId}
theorem Blk.tag (h : Blk w k cs t) : Tag w k t := ⟨cs, h⟩
theorem Blk.lt (h : Blk w k cs t) : k < w.heap.size := (Array.getElem?_eq_some_iff.1 h).1
theorem Tag.lt (h : Tag w k t) : k < w.heap.size := h.elim fun _ h => Blk.lt h
theorem Blk.cell (h : Blk w k cs t) {j : Nat} {v : Value} (hv : cs[j]? = some v) : w.cell? ⟨k, j, none⟩ = some v := (cell_of_row w k j cs t (0, 0) h).trans hv
theorem Tag.frozen (h : Tag w k t) (j : Nat) : w.frozen? ⟨k, j, none⟩ = false := h.elim fun cs h => frozen_of_row w k j cs t h
theorem Blk.frozen (h : Blk w k cs t) (j : Nat) : w.frozen? ⟨k, j, none⟩ = false := h.tag.frozen j
theorem Tag.ne (h : Tag w k t) (h' : Tag w k' t') (ht : t ≠ t') : k ≠ k' := by
  rintro rfl
  obtain ⟨c, h⟩ := h
  obtain ⟨c', h'⟩ := h'
  unfold Blk at h h'
  rw [h] at h'
  simp only [Option.some.injEq, Obj.cells.injEq] at h'
  exact ht h'.2.1
theorem Blk.same (h : Blk w k cs t) (h' : Blk w k cs' t') : cs = cs' := by
  unfold Blk at h h'
  rw [h] at h'
  simp only [Option.some.injEq, Obj.cells.injEq] at h'
  exact h'.1
theorem Blk.new (w : World) (cs : Array Value) (t : TypeId) : Blk (w.alloc (.cells cs t)) w.heap.size cs t := heap_alloc_new w _
theorem Blk.set (h : Blk w k cs t) (j : Nat) (v : Value) : Blk (w.setCell ⟨k, j, none⟩ v) k (cs.setIfInBounds j v) t := heap_setCell_same w k j cs t v h
theorem Blk.far (h : Blk w k cs t) (k' j : Nat) (v : Value) (hn : k ≠ k') : Blk (w.setCell ⟨k', j, none⟩ v) k cs t := (Below.heap_setCell w ⟨k', j, none⟩ v k hn).trans h
theorem Tag.set (h : Tag w k t) (k' j : Nat) (v : Value) : Tag (w.setCell ⟨k', j, none⟩ v) k t := by
  obtain ⟨cs, h⟩ := h
  by_cases e : k = k'
  · subst e; exact (h.set j v).tag
  · exact (h.far k' j v e).tag
theorem Blk.alloc (h : Blk w k cs t) (o : Obj) : Blk (w.alloc o) k cs t := (Below.heap_alloc w o k h.lt).trans h
theorem Blk.nw {w' : World} (h : Blk w k cs t) (n : Nw w w') : Blk w' k cs t := (n.b.block k h.lt).trans h
theorem Tag.nw {w' : World} (h : Tag w k t) (n : Nw w w') : Tag w' k t := h.elim fun _ h => (h.nw n).tag
theorem Blk.up {w' : World} {b : Nat} (h : Blk w k cs t) (n : Up b w w') (hn : k ≠ b) : Blk w' k cs t := (n.block k h.lt hn).trans h
theorem Tag.up {w' : World} {b : Nat} (h : Tag w k t) (n : Up b w w') (hn : k ≠ b) : Tag w' k t := h.elim fun _ h => (h.up n hn).tag
end

/-- Nothing but some blocks, and new memory. -/
structure UpO (O : Nat → Prop) (w w' : World) : Prop where
  os : w'.os = w.os
  tape : w'.tape = w.tape
  output : w'.output = w.output
  size : w.heap.size ≤ w'.heap.size
  block : ∀ k, k < w.heap.size → ¬ O k → w'.heap[k]? = w.heap[k]?
section
variable {O O' : Nat → Prop} {a b c : World}
theorem UpO.refl (O : Nat → Prop) (w : World) : UpO O w w := ⟨rfl, rfl, rfl, Nat.le_refl _, fun _ _ _ => rfl⟩
theorem UpO.of_up {t : Nat} (h : Up t a b) (ht : O t) : UpO O a b := ⟨h.os, h.tape, h.output, h.size, fun k hk hn => h.block k hk (fun e => hn (e ▸ ht))⟩
theorem UpO.of_nw (h : Nw a b) : UpO O a b := ⟨h.b.os, h.b.tape, h.b.output, h.b.size, fun k hk _ => h.b.block k hk⟩
/-- The second step may touch what the first one did, and what is new. -/
theorem UpO.trans (h : UpO O a b) (k : UpO O' b c) (ho : ∀ x, O' x → O x ∨ a.heap.size ≤ x) : UpO O a c :=
  ⟨k.os.trans h.os, k.tape.trans h.tape, k.output.trans h.output, Nat.le_trans h.size k.size, fun i hi hn => (k.block i (Nat.lt_of_lt_of_le hi h.size) (fun hx => by rcases ho i hx with h1 | h1; exact hn h1; omega)).trans (h.block i hi hn)⟩
theorem UpO.nw (h : UpO O a b) (k : Nw b c) : UpO O a c := h.trans (O' := fun _ => False) (.of_nw k) (fun _ hx => hx.elim)
theorem UpO.pre (h : Nw a b) (k : UpO O b c) : UpO O a c := UpO.trans (.of_nw h) k (fun _ hx => .inl hx)
theorem UpO.below {B : Nat} {w0 : World} (k : Below B w0 a) (h : UpO O a b) (hB : B ≤ a.heap.size) (ht : ∀ x, O x → B ≤ x) : Below B w0 b :=
  k.trans ⟨h.os, h.tape, h.output, h.size, fun i hi => h.block i (by omega) (fun hx => by have := ht i hx; omega)⟩
theorem UpO.toNw (h : UpO O a b) (ht : ∀ x, O x → a.heap.size ≤ x) : Nw a b := ⟨h.below (Below.refl _ _) (Nat.le_refl _) ht⟩
theorem UpO.nw_of (n : Nw a b) (h : UpO O b c) (ht : ∀ x, O x → a.heap.size ≤ x) : Nw a c := ⟨h.below n.b n.b.size ht⟩
theorem UpO.cell (h : UpO O a b) {p : Addr} {v : Value} (hc : a.cell? p = some v) (hn : ¬ O p.block) : b.cell? p = some v :=
  (World.cell?_of_block (w := a) (h.block p.block (cell_lt hc).1 hn)).trans hc
theorem UpO.blk (h : UpO O a b) {k : Nat} {cs : Array Value} {t : TypeId} (hb : Blk a k cs t) (hn : ¬ O k) : Blk b k cs t := (h.block k hb.lt hn).trans hb
theorem UpO.tag (h : UpO O a b) {k : Nat} {t : TypeId} (hb : Tag a k t) (hn : ¬ O k) : Tag b k t := hb.elim fun _ hb => (h.blk hb hn).tag
theorem UpO.mono (h : UpO O a b) (ho : ∀ x, O x → O' x) : UpO O' a b := ⟨h.os, h.tape, h.output, h.size, fun k hk hn => h.block k hk (fun hx => hn (ho k hx))⟩
theorem UpO.set (h : UpO O a b) {t : Nat} (ht : O t) (j : Nat) (v : Value) : UpO O a (b.setCell ⟨t, j, none⟩ v) := h.trans (.of_up ((Up.refl t b).set j v) ht) (fun _ hx => .inl hx)
theorem UpO.alloc (h : UpO O a b) (o : Obj) : UpO O a (b.alloc o) := h.nw (Nw.refl.alloc o)
theorem UpO.ints (h : UpO O a b) {n : Nat} {k : IntKind} {p : Option Addr} {zs : List Int} (hI : Ints n k a p zs) (hn : zs ≠ [] → ∀ q, p = some q → ¬ O q.block) : Ints n k b p zs := by
  by_cases hz : zs = []
  · exact .inl hz
  rcases hI with e | ⟨b', off, e, hb, hc⟩
  · exact .inl e
  · exact .inr ⟨b', off, e, hb, fun j hj => h.cell (hc j hj) (hn hz ⟨b', off, none⟩ e)⟩
end

def updF {α : Type} (f : Nat → α) (k : Nat) (x : α) : Nat → α := fun i => if i = k then x else f i
theorem updF_same {α : Type} (f : Nat → α) (k : Nat) (x : α) : updF f k x k = x := by unfold updF; rw [if_pos rfl]
theorem updF_ne {α : Type} (f : Nat → α) {k i : Nat} (x : α) (h : i ≠ k) : updF f k x i = f i := by unfold updF; rw [if_neg h]
/-- The block of a slice. -/
def QB (o : Option Addr) (k : Nat) : Prop := ∃ p, o = some p ∧ p.block = k

/-- A slice of things of sz cells in a block of its own. -/
def Qs (W : World) (e : TypeId) (sz : Nat) (a : Option Addr) (c : Nat) (xs : List Value) : Prop :=
  (a = none ∧ xs = [] ∧ c = 0) ∨ ∃ b off, a = some ⟨b, off, none⟩ ∧ Tag W b e ∧ xs.length ≤ c * sz ∧ c ≤ maxLen ∧
    (∀ j, j < c * sz → (W.cell? ⟨b, off + j, none⟩).isSome = true) ∧ ∀ j (h : j < xs.length), W.cell? ⟨b, off + j, none⟩ = some xs[j]
section
variable {W W' : World} {e : TypeId} {sz : Nat} {a : Option Addr} {c : Nat} {xs : List Value}
theorem Qs.nil (W : World) (e : TypeId) (sz : Nat) : Qs W e sz none 0 [] := .inl ⟨rfl, rfl, rfl⟩
theorem Qs.len (h : Qs W e sz a c xs) : xs.length ≤ c * sz := by
  rcases h with ⟨_, rfl, rfl⟩ | ⟨_, _, _, _, h, _⟩
  · simp
  · exact h
theorem Qs.cap (h : Qs W e sz a c xs) : c ≤ maxLen := by
  rcases h with ⟨_, rfl, rfl⟩ | ⟨_, _, _, _, _, h, _⟩
  · exact Nat.zero_le _
  · exact h
theorem Qs.tag (h : Qs W e sz a c xs) {p : Addr} (hp : a = some p) : Tag W p.block e := by
  rcases h with ⟨rfl, _⟩ | ⟨b, off, rfl, ht, _⟩
  · cases hp
  · cases hp; exact ht
theorem Qs.upo {O : Nat → Prop} (h : Qs W e sz a c xs) (k : UpO O W W') (hn : ∀ p, a = some p → ¬ O p.block) : Qs W' e sz a c xs := by
  rcases h with h | ⟨b, off, rfl, hb, h1, h2, h3, h5⟩
  · exact .inl h
  · have hbt := hn ⟨b, off, none⟩ rfl
    have hsame : ∀ j, W'.cell? ⟨b, j, none⟩ = W.cell? ⟨b, j, none⟩ := fun j => World.cell?_of_block (w := W) (a := ⟨b, j, none⟩) (k.block b hb.lt hbt)
    exact .inr ⟨b, off, rfl, k.tag hb hbt, h1, h2, fun j hj => by rw [hsame]; exact h3 j hj, fun j hj => by rw [hsame]; exact h5 j hj⟩
theorem Qs.nw (h : Qs W e sz a c xs) (k : Nw W W') : Qs W' e sz a c xs := h.upo (O := fun _ => False) (.of_nw k) (fun _ _ hx => hx)
theorem Qs.lt (h : Qs W e sz a c xs) : ∀ p, a = some p → p.block < W.heap.size := fun p hp => (h.tag hp).lt
/-- Of what another kind has is nothing. -/
theorem Qs.not_qb (h : Qs W e sz a c xs) {k : Nat} {t : TypeId} (hk : Tag W k t) (ht : t ≠ e) : ¬ QB a k := by
  rintro ⟨p, hp, rfl⟩
  exact hk.ne (h.tag hp) ht rfl
/-- The slice behind its first thing. -/
theorem Qs.tail {b off : Nat} (h : Qs W e sz (some ⟨b, off, none⟩) c xs) (hc : 1 < c) : Qs W e sz (some ⟨b, off + sz, none⟩) (c - 1) (xs.drop sz) := by
  rcases h with ⟨h, _⟩ | ⟨b', off', h, ht, h1, h2, h3, h4⟩
  · cases h
  · cases h
    have e1 : c * sz = (c - 1) * sz + sz := by
      obtain ⟨m, rfl⟩ : ∃ m, c = m + 1 := ⟨c - 1, by omega⟩
      rw [Nat.add_sub_cancel, Nat.succ_mul]
    refine .inr ⟨b, off + sz, rfl, ht, by rw [List.length_drop]; omega, by omega, fun j hj => ?_, fun j hj => ?_⟩
    · rw [Nat.add_assoc]; exact h3 _ (by omega)
    · rw [List.length_drop] at hj
      rw [Nat.add_assoc, h4 _ (by omega), List.getElem_drop]
theorem Qs.empty {b off : Nat} (h : Qs W e sz (some ⟨b, off, none⟩) c xs) : Qs W e sz (some ⟨b, off, none⟩) 0 [] := by
  rcases h with ⟨h, _⟩ | ⟨b', off', h, ht, _⟩
  · cases h
  · cases h
    exact .inr ⟨b, off, rfl, ht, by simp, by unfold maxLen; omega, fun j hj => by simp at hj, fun j hj => by simp at hj⟩
end

/-- One more thing behind a slice of its own. -/
theorem wpList_append_qs {P : Program} (w : World) {ops : Array Oper} {rest : List Oper} {o : Oper} {a : Act} {Q : Exit → Act → World → Prop}
    (hg : o.guard = none) (s x : Operand) (t : TypeId) (hop : o.op = .call { callee := .builtin .append, args := #[s, x], argTypes := #[t, t] })
    (e : TypeId) (i : TypeInfo) (z : Value) (sz bytes : Nat) (h1 : P.underlying t = some (.slice e)) (h2 : P.info? e = some i) (h3 : i.zero = some z) (h4 : i.size = sz) (h5 : i.bytes = bytes) (hzs : z.cells.size = sz) (hsz : 0 < sz)
    (a0 : Option Addr) (n c0 : Nat) (xs : List Value) (hs : a.eval s = .slice a0 n c0) (hn : xs.length = n * sz) (hq : Qs w e sz a0 c0 xs) (h63 : n + 1 ≤ maxLen) (hby : (n + 1) * bytes ≤ 140737488355328)
    (ad : Addr) (c : Nat) (ys : List Value) (hx : a.eval x = .slice (some ad) 1 c) (hl : ys.length = 1 * sz) (hc : ∀ j u, ys[j]? = some u → w.cell? (ad.add j) = some u) (hone : ∀ u ∈ ys, u.oneCell' = true)
    (hK : ∀ a1 c1 w', Qs w' e sz a1 c1 (xs ++ ys) → UpO (QB a0) w w' → (∀ p, a1 = some p → QB a0 p.block ∨ w.heap.size ≤ p.block) → wpList P ops Q rest (a.put o.dst (.slice a1 (n + 1) c1)) w') :
    wpList P ops Q (o :: rest) a w := by
  have grown : ∀ v' w', w'.ownsRow w.heap.size e sz v' (n + 1) (xs ++ ys) → w.grownBy w' none → wpList P ops Q rest (a.put o.dst v') w' := by
    intro v' w' ho hgr
    have hN : Nw w w' := ⟨Below.of_grown hgr⟩
    rcases ho.2 with ⟨_, h0⟩ | ⟨g, cap, cur, rfl, hg, hh, hn', hm, hcs, hcur⟩
    · omega
    · have hlen : (xs ++ ys).length = (n + 1) * sz := ho.1
      refine hK (some ⟨g, 0, none⟩) cap w' (.inr ⟨g, 0, rfl, ⟨cur, hh⟩, by rw [hlen]; exact Nat.mul_le_mul_right _ hn', hm, fun j hj => ?_, fun j hj => ?_⟩) (.of_nw hN) (fun p hp => by cases hp; exact .inr hg)
      · rw [cell_of_row w' g (0 + j) _ _ _ hh]; simp [hcs, hj]
      · rw [cell_of_row w' g (0 + j) _ _ _ hh, Nat.zero_add]
        have hj' : j < (n + 1) * sz := by omega
        have : cur.toList[j]? = (xs ++ ys)[j]? := by rw [← hcur, List.getElem?_take_of_lt hj']
        rw [List.getElem?_eq_getElem hj] at this
        simpa using this
  rcases hq with ⟨rfl, rfl, rfl⟩ | ⟨b, off, rfl, hb, hle, hm, hsome, hcell⟩
  · have hn0 : n = 0 := by
      rcases Nat.eq_zero_or_pos n with h | h
      · exact h
      · have := Nat.mul_pos h hsz
        rw [← hn] at this; simp at this
    subst hn0
    refine wpList_append_grows w hg s x t hop e i z sz bytes h1 h2 h3 h4 h5 hzs hsz none 0 0 [] hs (fun _ => ⟨rfl, rfl⟩) (by simp) (fun b hb => by cases hb) ad 1 c ys hx hl hc hone (by decide) h63 hby (fun v' w' ho hgr => grown v' w' ?_ hgr)
    simpa using ho
  · have hnc : n ≤ c0 := by rw [hn] at hle; exact Nat.le_of_mul_le_mul_right hle hsz
    refine wpList_append_arg w hg s x t hop e i z sz bytes h1 h2 h3 h4 h5 hzs hsz b off n c0 xs hs hn ?_ ad 1 c ys hx hl hc hone ?_ h63 hby ?_ (fun hlt v' w' ho hgr => grown v' w' ho hgr)
    · intro j u hj
      obtain ⟨hj', rfl⟩ := List.getElem?_eq_some_iff.1 hj
      exact hcell j hj'
    · intro hr j hj
      have : (n + 1) * sz ≤ c0 * sz := Nat.mul_le_mul_right _ hr
      rw [Nat.succ_mul] at this
      exact ⟨by rw [Nat.add_assoc]; exact hsome _ (by omega), hb.frozen _⟩
    · intro hr
      have hcs : (n + 1) * sz ≤ c0 * sz := Nat.mul_le_mul_right _ hr
      rw [Nat.succ_mul] at hcs
      have hy : ys.length = sz := by omega
      have hu : ∀ (vs : List Value) (o : Nat) (v : World), Up b v (v.setCells b o vs) ∧ ((∃ cs, Blk v b cs e) → ∃ cs, Blk (v.setCells b o vs) b cs e) := by
        intro vs
        induction vs with
        | nil => intro o v; exact ⟨Up.refl _ _, id⟩
        | cons x r ih =>
          intro o v
          obtain ⟨i1, i2⟩ := ih (o + 1) (v.setCell ⟨b, o, none⟩ x)
          exact ⟨((Up.refl b v).set o x).trans i1, fun h => i2 (Tag.set h b o x)⟩
      have hsomes : ∀ j, j < ys.length → (w.cell? ⟨b, off + n * sz + j, none⟩).isSome = true := fun j hj => by rw [Nat.add_assoc]; exact hsome _ (by omega)
      refine hK (some ⟨b, off, none⟩) c0 _ (.inr ⟨b, off, rfl, (hu ys _ w).2 hb, by rw [List.length_append]; omega, hm, fun j hj => ?_, fun j hj => ?_⟩) (.of_up (hu ys _ w).1 ⟨_, rfl, rfl⟩) (fun p hp => by cases hp; exact .inl ⟨_, rfl, rfl⟩)
      · by_cases hin : n * sz ≤ j ∧ j < n * sz + sz
        · have := World.cell?_setCells_in b ys (off + n * sz) w hsomes (j - n * sz) (by omega)
          rw [show off + n * sz + (j - n * sz) = off + j by omega] at this
          rw [this]; rfl
        · rw [World.cell?_setCells_out b ys (off + n * sz) w ⟨b, off + j, none⟩ (fun _ _ => by dsimp only; omega)]
          exact hsome j hj
      · by_cases hin : j < xs.length
        · rw [World.cell?_setCells_out b ys (off + n * sz) w ⟨b, off + j, none⟩ (fun _ _ => by dsimp only; omega), hcell j hin, List.getElem_append_left hin]
        · rw [List.length_append] at hj
          have := World.cell?_setCells_in b ys (off + n * sz) w hsomes (j - n * sz) (by omega)
          rw [show off + n * sz + (j - n * sz) = off + j by omega] at this
          rw [this, List.getElem_append_right (by omega)]
          congr 2
          omega

end Go.Proofs.YtkopfnldgnkkoaaGreat
