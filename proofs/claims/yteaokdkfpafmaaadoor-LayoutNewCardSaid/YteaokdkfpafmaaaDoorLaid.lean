/-
  THE LISTED VARIABLE: what the condition gives the walks.
-/
import Derived.Test.YteaokdkfpafmaaaDoorRows
import Derived.Test.YteaokdkfpafmaaaDoorLayA
import Derived.ProofKit
import Derived.LaidMore
import Derived.OpenShut
import Derived.Stop.Joined
import Derived.Deep.Strs
namespace Go.Proofs.YteaokdkfpafmaaaDoor
open Go.ChangeShapes Go.WideShapes Go.ChangeAt Go.WideMaps Go.WideElems Go.RowKit

theorem laid_own : ownKnob Tryd.prog.godebug = none := by kernel_rfl
def laidAll {H : Type} : List (String × DataW H) := [("grommet/layout.least", Rows.laid_grommet_layout_least)]
def LaidOk (w : World) : Prop := Least w
theorem gLeast : Tryd.prog.globalNamed "grommet/layout.least" = some 0 := by kernel_rfl
theorem tLeast : (Tryd.prog.globals[0]?).map (·.type) = some 23 := by kernel_rfl

theorem door_met (os : Os) (args : Array Value) : laidMetH Tryd.prog laidAll ((World.doorLaid Tryd.prog 400 os).forCall (fun _ _ => 0) ⟨#[], args, []⟩).memory :=
  laidMetH_of_parts3 (fuel := 8) (laidMet_of_run' 8 (by kernel_rfl) (by kernel_rfl)) (by kernel_rfl) (by kernel_rfl)

theorem of_laid {W : World} (h : laidMetH Tryd.prog laidAll W) : LaidOk W := by
  rw [MakeChecks.laidMetH_plain _ _ _ (by kernel_rfl)] at h
  obtain ⟨ps, ⟨g0, t0, cs0, f0, p0, q0, hg0, ht0, hv0, hd0, _, _⟩, _, _⟩ := h
  obtain rfl := Option.some.inj (gLeast.symm.trans hg0)
  obtain rfl := Option.some.inj (tLeast.symm.trans ht0)
  obtain ⟨y0, y1, y2, n, hx, hlen, e0, e1, e2⟩ := Deep.trod_struct3 Tryd.underlying23 hd0
  have c23 : Tryd.prog.cellsOf 23 = 3 := by kernel_rfl
  have c3 : Tryd.prog.cellsOf 3 = 1 := by kernel_rfl
  rw [c23] at hlen
  simp only [c3] at e0 e1 e2
  obtain ⟨l⟩ := cs0
  match l, hlen with
  | [v0, v1, v2], _ =>
    simp only [List.drop_zero, List.drop_succ_cons, List.take_succ_cons, List.take_zero] at e0 e1 e2
    obtain ⟨a0, q0, r0, _⟩ := DataW.trod_int Tryd.underlying3 e0
    obtain ⟨a1, q1, r1, _⟩ := DataW.trod_int Tryd.underlying3 e1
    obtain ⟨a2, q2, r2, _⟩ := DataW.trod_int Tryd.underlying3 e2
    rw [r0, r1, r2] at hx
    simp only [Prod.mk.injEq, Rows.laid_grommet_layout_least, DataW.agg.injEq, List.cons.injEq, DataW.lit.injEq, Lit.int.injEq, true_and, and_true] at hx
    obtain ⟨⟨rfl, rfl, rfl⟩, _⟩ := hx
    have w0 := World.var?_cell hg0 hv0 0
    have w1 := World.var?_cell hg0 hv0 1
    have w2 := World.var?_cell hg0 hv0 2
    simp at q0 q1 q2 w0 w1 w2
    subst q0 q1 q2
    exact ⟨by simpa using w0, by simpa using w1, by simpa using w2⟩

end Go.Proofs.YteaokdkfpafmaaaDoor
