/-
  ARGUMENTS THAT ARE SLICES OF STRUCTS OF ONE-CELL FIELDS, opened to cells. (open_slice_fields after the kit's page on structs.)
-/
import Derived.Deep.Slices
import Derived.Deep.Fields
import Derived.ChangeSame
import Derived.ChangeArms
import Derived.WideShapes
import Derived.Test.YtkopfnldgnkkoaaGreatLib
namespace Go.Proofs.YtkopfnldgnkkoaaGreat
open Go.ChangeShapes Go.WideShapes Go.Deep Go.RowKit
set_option linter.unusedVariables false
section
variable {H : Type} {enc : TypeId × Value → H} {P : Program} {w : World} {base : Nat} {spare : Nat → Bool} {held : Bool}
theorem open_slice_fields {t e : TypeId} {fs : Array Field} {fuel : Nat} {cs : List Value} {x : DataW H × List MemPlace} (ht : P.underlying t = some (.slice e)) (he : P.underlying e = some (.struct fs))
    (hone : oneCellFields P fs = true) (hC : P.cellsOf e = fs.size) (h : DataW.trod enc P w base spare held fuel t cs = some x) :
    (cs = [.slice none 0 0] ∧ x = (.nil, [])) ∨
    ∃ (a : Addr) (len cap m : Nat) (D : Nat → DataW H) (Pl : Nat → List MemPlace), cs = [.slice (some a) len cap] ∧ base ≤ a.block ∧ len ≤ cap ∧ cap ≤ maxLen ∧ m = (if spare a.block then cap else len) ∧
      x = (.slice ((List.range len).map D) ((List.range (m - len)).map fun j => D (len + j)), MemPlace.row a (m * fs.size) ++ (List.range m).flatMap Pl) ∧
      ∀ i, i < m → ∃ (ys : List (DataW H × List MemPlace)) (n : Nat), D i = .agg (ys.map (·.1)) ∧ Pl i = ys.flatMap (·.2) ∧ ys.length = fs.size ∧
        ∀ (j : Nat) (f : Field), fs[j]? = some f → ∃ (v : Value) (y : DataW H × List MemPlace), w.cell? (a.add (i * fs.size + j)) = some v ∧ ys[j]? = some y ∧ DataW.trod enc P w base spare held n f.type [v] = some y := by
  rcases open_slice ht h with h0 | ⟨a, len, cap, m, n, D, Pl, hcs, hb, hl, hm, hmm, hx, hi⟩
  · exact .inl h0
  · refine .inr ⟨a, len, cap, m, D, Pl, hcs, hb, hl, hm, hmm, by rw [hC] at hx; exact hx, fun i him => ?_⟩
    obtain ⟨cs', hc, ht'⟩ := hi i him
    rw [hC] at hc
    obtain ⟨ys, n', hn', hy, hlen, hyl, hf⟩ := DataW.trod_struct he ht'
    obtain ⟨_, hcl, hat⟩ := World.cells?_some hc
    simp only [Prod.mk.injEq] at hy
    refine ⟨ys, n', hy.1, hy.2, hyl, fun j f hj => ?_⟩
    obtain ⟨ho, hk⟩ := hone_of hone j f hj
    have hjl : j < fs.size := (Array.getElem?_eq_some_iff.1 hj).1
    have hcell := hat j hjl
    have hv : cs'[j]? = some (cs'[j]'(by omega)) := List.getElem?_eq_getElem (by omega)
    have h1 := hf j f hj
    rw [ho, hk] at h1
    have hone' : (cs'.drop j).take 1 = [cs'[j]'(by omega)] := by
      rw [List.drop_eq_getElem_cons (by omega)]
      rfl
    rw [hone'] at h1
    have hys : ys[j]? = some (ys[j]'(by omega)) := List.getElem?_eq_getElem (by omega)
    refine ⟨_, _, ?_, hys, h1.trans hys⟩
    rw [← Go.Deep.add_add, hcell, hv]
/-- The cells of element i of a slice at ⟨b, off⟩. -/
def RecAt (enc : TypeId × Value → H) (P : Program) (w : World) (base : Nat) (spare : Nat → Bool) (held : Bool) (fs : Array Field) (b off i : Nat) : Prop :=
  ∀ (j : Nat) (f : Field), fs[j]? = some f → ∃ (v : Value) (n : Nat) (y : DataW H × List MemPlace), w.cell? ⟨b, off + i * fs.size + j, none⟩ = some v ∧ DataW.trod enc P w base spare held n f.type [v] = some y
theorem open_recs {r : Reach} {b0 : Nat} {t e : TypeId} {fs : Array Field} {v : Value} {d : DataW H} {p : List MemPlace} (ht : P.underlying t = some (.slice e)) (he : P.underlying e = some (.struct fs))
    (hone : oneCellFields P fs = true) (hC : P.cellsOf e = fs.size) (hpos : 0 < fs.size) (hv : Value.okWide P w r b0 t v) (h : DataW.Trod enc P w base spare held t v d p) :
    ∃ a len cap, v = .slice a len cap ∧ len ≤ cap ∧ len ≤ 9223372036854775807 ∧ (len = 0 ∨ ∃ b off, a = some ⟨b, off, none⟩ ∧ b < w.heap.size ∧ ∀ i, i < len → RecAt enc P w base spare held fs b off i) := by
  obtain ⟨a, len, cap, rfl⟩ := okWide_slice ht hv
  obtain ⟨fuel, hf⟩ := h
  rcases open_slice_fields ht he hone hC hf with ⟨hcs, _⟩ | ⟨x, l, c, m, D, Pl, hcs, _, hl, hm, hmm, _, hi⟩
  · simp [Value.cells] at hcs
    obtain ⟨rfl, rfl, rfl⟩ := hcs
    exact ⟨none, 0, 0, rfl, Nat.le_refl _, by omega, .inl rfl⟩
  · simp [Value.cells] at hcs
    obtain ⟨rfl, rfl, rfl⟩ := hcs
    refine ⟨some x, len, cap, rfl, hl, by unfold maxLen at hm; omega, ?_⟩
    rcases Nat.eq_zero_or_pos len with h0 | h0
    · exact .inl h0
    have hlm : len ≤ m := by rw [hmm]; split <;> omega
    have key : ∀ i, i < len → ∀ (j : Nat) (f : Field), fs[j]? = some f → ∃ (v : Value) (n : Nat) (y : DataW H × List MemPlace), w.cell? (x.add (i * fs.size + j)) = some v ∧ DataW.trod enc P w base spare held n f.type [v] = some y := fun i hil j f hj => by
      obtain ⟨ys, n, _, _, _, hff⟩ := hi i (by omega)
      obtain ⟨v, y, h1, _, h3⟩ := hff j f hj
      exact ⟨v, n, y, h1, h3⟩
    obtain ⟨v0, _, _, hc0, _⟩ := key 0 h0 0 _ (Array.getElem?_eq_getElem hpos)
    obtain ⟨hb, hs⟩ := cell_lt hc0
    obtain ⟨b, off, sp⟩ := x
    simp [Addr.add] at hs hb
    subst hs
    refine .inr ⟨b, off, rfl, hb, fun i hil j f hj => ?_⟩
    obtain ⟨v, n, y, h1, h2⟩ := key i hil j f hj
    refine ⟨v, n, y, ?_, h2⟩
    rw [Addr.add_lit] at h1
    rw [Nat.add_assoc]
    exact h1
end

/-- A slice of structs whose cells are written by 'enc'. -/
def Recs {α : Type} (en : α → List Value) (nf : Nat) (n₀ : Nat) (W : World) (a : Option Addr) (ss : List α) : Prop :=
  ss = [] ∨ ∃ b off, a = some ⟨b, off, none⟩ ∧ b < n₀ ∧ ∀ i (h : i < ss.length) j v, (en ss[i])[j]? = some v → W.cell? ⟨b, off + i * nf + j, none⟩ = some v
theorem Recs.below {α : Type} {en : α → List Value} {nf n₀ : Nat} {A B : World} (h : Below n₀ A B) {a : Option Addr} {ss : List α} : Recs en nf n₀ A a ss → Recs en nf n₀ B a ss
  | .inl e => .inl e
  | .inr ⟨b, off, e, hb, hc⟩ => .inr ⟨b, off, e, hb, fun i hi j v hv => (h.cell (p := ⟨b, off + i * nf + j, none⟩) hb).trans (hc i hi j v hv)⟩
theorem recs_make {α : Type} (en : α → List Value) (nf n₀ : Nat) (W : World) (a : Option Addr) (len : Nat) (Q : α → Prop)
    (h : len = 0 ∨ ∃ b off, a = some ⟨b, off, none⟩ ∧ b < n₀ ∧ ∀ i, i < len → ∃ x : α, Q x ∧ ∀ j v, (en x)[j]? = some v → W.cell? ⟨b, off + i * nf + j, none⟩ = some v) :
    ∃ ss : List α, ss.length = len ∧ Recs en nf n₀ W a ss ∧ ∀ x ∈ ss, Q x := by
  rcases h with rfl | ⟨b, off, rfl, hb, hi⟩
  · exact ⟨[], rfl, .inl rfl, by simp⟩
  · suffices ∀ k, k ≤ len → ∃ ss : List α, ss.length = k ∧ (∀ i (h : i < ss.length) j v, (en ss[i])[j]? = some v → W.cell? ⟨b, off + i * nf + j, none⟩ = some v) ∧ ∀ x ∈ ss, Q x by
      obtain ⟨ss, h1, h2, h3⟩ := this len (Nat.le_refl _)
      exact ⟨ss, h1, .inr ⟨b, off, rfl, hb, h2⟩, h3⟩
    intro k
    induction k with
    | zero => intro _; exact ⟨[], rfl, by simp, by simp⟩
    | succ k ih =>
      intro hk
      obtain ⟨ss, h1, h2, h3⟩ := ih (by omega)
      obtain ⟨x, hx, hc⟩ := hi k (by omega)
      refine ⟨ss ++ [x], by simp [h1], fun i hil j v hv => ?_, fun y hy => ?_⟩
      · rw [List.getElem_append] at hv
        split at hv
        · exact h2 i (by assumption) j v hv
        · have hik : i = k := by simp at hil; omega
          subst hik
          simp [h1] at hv
          exact hc j v hv
      · rcases List.mem_append.1 hy with h | h
        · exact h3 y h
        · simp at h; subst h; exact hx

/-- A slice of two-cell structs. -/
def Pairs (k1 k2 : IntKind) (n₀ : Nat) (W : World) (a : Option Addr) (ss : List (Int × Int)) : Prop :=
  ss = [] ∨ ∃ b off, a = some ⟨b, off, none⟩ ∧ b < n₀ ∧ ∀ j, j < ss.length → W.cell? ⟨b, off + j * 2, none⟩ = some (.int k1 (ss[j]?.getD (0, 0)).1) ∧ W.cell? ⟨b, off + j * 2 + 1, none⟩ = some (.int k2 (ss[j]?.getD (0, 0)).2)
theorem pairs_of {H : Type} {enc : TypeId × Value → H} {P : Program} {w : World} {base : Nat} {spare : Nat → Bool} {held : Bool} {fs : Array Field} {f0 f1 : Field} (h0 : fs[0]? = some f0) (h1 : fs[1]? = some f1) (hn : fs.size = 2)
    {k1 k2 : IntKind} (u0 : P.underlying f0.type = some (.int k1)) (u1 : P.underlying f1.type = some (.int k2)) {a : Option Addr} {len : Nat}
    (h : len = 0 ∨ ∃ b off, a = some ⟨b, off, none⟩ ∧ b < w.heap.size ∧ ∀ i, i < len → RecAt enc P w base spare held fs b off i) :
    ∃ ss : List (Int × Int), ss.length = len ∧ Pairs k1 k2 w.heap.size w a ss ∧ ∀ x ∈ ss, (Lit.int k1 x.1).wf = true ∧ (Lit.int k2 x.2).wf = true := by
  obtain ⟨ss, hl, hr, hq⟩ := recs_make (fun x : Int × Int => [Value.int k1 x.1, .int k2 x.2]) 2 w.heap.size w a len (fun x => (Lit.int k1 x.1).wf = true ∧ (Lit.int k2 x.2).wf = true) (by
    rcases h with h | ⟨b, off, e, hb, hi⟩
    · exact .inl h
    · refine .inr ⟨b, off, e, hb, fun i hil => ?_⟩
      obtain ⟨v0, n0, y0, c0, t0⟩ := hi i hil 0 f0 h0
      obtain ⟨v1, n1, y1, c1, t1⟩ := hi i hil 1 f1 h1
      obtain ⟨z0, q0, _, g0⟩ := DataW.trod_int u0 t0
      obtain ⟨z1, q1, _, g1⟩ := DataW.trod_int u1 t1
      obtain rfl : v0 = .int k1 z0 := by simpa using q0
      obtain rfl : v1 = .int k2 z1 := by simpa using q1
      rw [hn] at c0 c1
      refine ⟨(z0, z1), ⟨g0, g1⟩, fun j v hv => ?_⟩
      match j, hv with
      | 0, hv => simp at hv; subst hv; exact c0
      | 1, hv => simp at hv; subst hv; exact c1)
  refine ⟨ss, hl, ?_, hq⟩
  rcases hr with e | ⟨b, off, e, hb, hc⟩
  · exact .inl e
  · refine .inr ⟨b, off, e, hb, fun j hj => ⟨?_, ?_⟩⟩
    · have := hc j hj 0 _ rfl
      rw [Nat.add_zero] at this
      rw [this]; simp [hj]
    · have := hc j hj 1 _ rfl
      rw [this]; simp [hj]

end Go.Proofs.YtkopfnldgnkkoaaGreat
