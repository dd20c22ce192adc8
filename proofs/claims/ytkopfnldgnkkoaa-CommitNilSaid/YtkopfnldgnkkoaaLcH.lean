/-
  A NEW DEVICE: its words.
-/
import Derived.Test.YtkopfnldgnkkoaaRdC
import Derived.Test.YtkopfnldgnkkoaaLcC
import Derived.Deep.Cut
import Derived.Deep.Cut
namespace Go.Proofs.Ytkopfnldgnkkoaa
open Go.RowKit

/-- The words of a new device. -/
def fmtL (g : G) : List Int :=
  ((((((((List.replicate (atN g 7).toNat (0 : Int)).set 0 32762617960297063).set 1 g.w).set 2 g.i).set 3 g.b).set (264 + 208 * g.w).toNat 3).set (272 + 208 * g.w).toNat 1).set (296 + 208 * g.w).toNat 2).set (297 + 208 * g.w).toNat 1
theorem fmtL_length (g : G) : (fmtL g).length = (atN g 7).toNat := by simp [fmtL]

/-- What Format of a geometry that may be leaves. -/
def FmtYes (w0 : World) (g : G) (e : Ending) (w' : World) : Prop :=
  ∃ b, e = .returned (.slice (some ⟨b, 0, none⟩) (atN g 7).toNat (atN g 7).toNat) ∧ Row w' b 39 .u64 (fmtL g) ∧ w0.heap.size ≤ b ∧ At w0 w'

theorem Row.at {w w' : World} {g : Nat} {t : TypeId} {k : IntKind} {zs : List Int} (h : Row w g t k zs) (ha : At w w') : Row w' g t k zs := h.below ha.b h.lt
theorem Box.set {w : World} {b : Nat} {g : G} (h : Box w b g) {a : Addr} (ha : a.block ≠ b) (v : Value) : Box (w.setCell a v) b g :=
  ⟨(World.cell?_setCell_other w a _ v (fun e => ha (by rw [e]))).trans h.c0, (World.cell?_setCell_other w a _ v (fun e => ha (by rw [e]))).trans h.c1, (World.cell?_setCell_other w a _ v (fun e => ha (by rw [e]))).trans h.c2⟩
theorem At.set {w0 w : World} (h : At w0 w) {a : Addr} (ha : w0.heap.size ≤ a.block) (v : Value) : At w0 (w.setCell a v) := ⟨h.b.setCell ha v⟩

/-- The device's words b, the box, the base. -/
structure Fm (w0 w : World) (bx b : Nat) (g : G) (zs : List Int) : Prop where
  r : Row w b 39 .u64 zs
  x : Box w bx g
  a : At w0 w
  ge : w0.heap.size ≤ b
  ne : b ≠ bx
theorem Fm.set {w0 w : World} {bx b : Nat} {g : G} {zs : List Int} (h : Fm w0 w bx b g zs) (j : Nat) (v : Int) : Fm w0 (w.setCell ⟨b, j, none⟩ (.int .u64 v)) bx b g (zs.set j v) :=
  ⟨h.r.set j v, h.x.set h.ne _, h.a.set h.ge _, h.ge, h.ne⟩
theorem Fm.at {w0 w w' : World} {bx b : Nat} {g : G} {zs : List Int} (h : Fm w0 w bx b g zs) (k : At w w') : Fm w0 w' bx b g zs := ⟨h.r.at k, h.x.at k, h.a.trans k, h.ge, h.ne⟩

end Go.Proofs.Ytkopfnldgnkkoaa
