/-
  RequestOthers: for every input the law returns true, and each argument reads behind the call as it read before. No condition.
  The frame of the row (printed by a program of mine, after the kit's own shell), with the reach; the walk is in the texts that it imports.
-/
import Derived.Test.YtphcdndohdnolaaRows
import Derived.Test.YtphcdndohdnolaaRqOb
import Derived.WalkKit
import Derived.ProofKit
import Derived.OpenShut
import Derived.ShutString
import Derived.ChangeOld
import Derived.Below
import Derived.SizedLaws
namespace Go.Proofs.Ytphcdndohdnolaa.requestOthers
open Go.ChangeShapes Go.WideShapes Go.ChangeAt Go.RowKit
open Go.ChangeMaps (open_string shut_string)
set_option linter.unusedVariables false

theorem own : ownKnob Try.prog.godebug = none := by kernel_rfl
theorem laidOut : laidOutB Try.prog = true := by kernel_rfl

theorem walk (r0 : Rq) (w : World) (w0 : okRq r0) :
    Calls Try.prog 8 #[rqV r0] w fun e w' => e = .returned (.bool true) ∧ Below w.heap.size w w' := by
  exact walk_others _ w0 w

set_option maxRecDepth 100000 in
theorem lifted (os : Os) (started : os.Started) (H : Type) (enc : TypeId × Value → H) :
    ReturnsInHanded {} Try.checked os 8 .any (Rows.requestOthersSpec.pre6 enc Try.prog Try.f8 Rows.requestOthersRow.domain false) (Rows.requestOthersSpec.post enc Try.prog Try.f8 false true false false) := by
  refine returnsInHanded_of_change_sized (C := Try.checked) own started (by kernel_rfl) Try.func8
    (ChangeSpec.witness6 (enc := enc) (C := Try.checked) false ⟨#[], #[.agg #[.int .u8 0, .int .u8 0, .int .u64 0, .int .u64 0, .int .u64 0, .string ⟨#[]⟩, .string ⟨#[]⟩, .string ⟨#[]⟩]], []⟩ 8 (by kernel_rfl) (by kernel_rfl) (by kernel_rfl) (by kernel_rfl)) ?_
  intro W base args ds gs before hval0 hW _ hsz0 _
  have hsz : (DataW.weightsEach Try.prog (Try.f8.params.toList ++ Rows.requestOthersSpec.plain.varTypes Try.prog) (ds ++ gs)).all (· ≤ reachBytes) = true := hsz0
  clear hsz0
  have hval : ∀ (j : Nat) t v, Try.f8.params[j]? = some t → args[j]? = some v → Value.okWide Try.prog W .any base t v := hval0
  have hW' := hW
  obtain ⟨p, q, hA0, hV, rfl, _, _⟩ := hW
  have hA : DataW.TrodAll enc Try.prog W 0 (fun _ => true) true Try.f8.params.toList args.toList ds p := hA0
  rw [Try.params8] at hA hval hsz
  obtain ⟨v0, vs0, d0, ds0, p0, q0, hargs, rfl, rfl, h0, r0⟩ := trodAll_cons hA
  obtain ⟨rfl, rfl, rfl⟩ := trodAll_nil r0
  obtain rfl : args = #[v0] := by cases args; simp_all
  obtain ⟨rfl, rfl⟩ := trodVars_none hV
  have k0 := h0
  have lt0 : ∀ x ∈ p0, x.block < W.heap.size := by obtain ⟨m, hm⟩ := k0; exact DataW.trod_lt m _ _ _ hm
  obtain ⟨c00, c01, c02, c03, c04, c05, c06, c07, y00, y01, y02, y03, y04, y05, y06, y07, m0, rfl, rfl, e00, e01, e02, e03, e04, e05, e06, e07⟩ := open_agg8 Try.underlying24 (by kernel_rfl) (by kernel_rfl) (hval 0 24 v0 rfl rfl) h0
  obtain ⟨z00, g00, rfl, u00⟩ := DataW.trod_int Try.underlying5 e00
  obtain ⟨z01, g01, rfl, u01⟩ := DataW.trod_int Try.underlying5 e01
  obtain ⟨z02, g02, rfl, u02⟩ := DataW.trod_int Try.underlying22 e02
  obtain ⟨z03, g03, rfl, u03⟩ := DataW.trod_int Try.underlying22 e03
  obtain ⟨z04, g04, rfl, u04⟩ := DataW.trod_int Try.underlying22 e04
  obtain ⟨z05, g05, rfl, u05⟩ := DataW.trod_string Try.underlying9 e05
  obtain ⟨z06, g06, rfl, u06⟩ := DataW.trod_string Try.underlying9 e06
  obtain ⟨z07, g07, rfl, u07⟩ := DataW.trod_string Try.underlying9 e07
  obtain rfl : c00 = .int .u8 z00 := by simpa using g00
  obtain rfl : c01 = .int .u8 z01 := by simpa using g01
  obtain rfl : c02 = .int .u64 z02 := by simpa using g02
  obtain rfl : c03 = .int .u64 z03 := by simpa using g03
  obtain rfl : c04 = .int .u64 z04 := by simpa using g04
  obtain rfl : c05 = .string z05 := by simpa using g05
  obtain rfl : c06 = .string z06 := by simpa using g06
  obtain rfl : c07 = .string z07 := by simpa using g07
  have x05 : z05.size ≤ 140737488351232 := by have := sized_field hsz (j := 0) (i := 5) rfl rfl Try.underlying24 rfl rfl; simp only [reachBytes, Array.length_toList] at this; exact this
  have x06 : z06.size ≤ 140737488351232 := by have := sized_field hsz (j := 0) (i := 6) rfl rfl Try.underlying24 rfl rfl; simp only [reachBytes, Array.length_toList] at this; exact this
  have x07 : z07.size ≤ 140737488351232 := by have := sized_field hsz (j := 0) (i := 7) rfl rfl Try.underlying24 rfl rfl; simp only [reachBytes, Array.length_toList] at this; exact this
  clear hA0 hval0
  refine (walk ⟨z00, z01, z02, z03, z04, z05, z06, z07⟩ W ⟨byte_of_wf u00, byte_of_wf u01, u64_of_wf u02, u64_of_wf u03, u64_of_wf u04, x05, x06, x07⟩).mono fun e W' ⟨he, bel⟩ => ?_
  subst he
  exact ⟨_, rfl, _, _, _, [], _, [], hW', trodAll_mk1 (shut_bool Try.underlying4 _), (trodAll_cons_mk (Below.trod laidOut (by kernel_rfl) (of_decide_eq_true (by kernel_rfl)) k0 bel lt0) trodAll_mk0), rfl, bel.frame _, fun h => by cases h⟩

theorem over : Rows.requestOthersRow.holds Try.pinned (OpenSpec.ofChange Rows.requestOthersSpec) :=
  OpenClaim.holds_of_wide 8 Try.f8 rfl rfl rfl rfl rfl rfl rfl ⟨rfl, rfl, rfl, rfl, rfl⟩ rfl rfl rfl rfl rfl (by kernel_rfl) Try.func8 (by kernel_rfl)
    (of_decide_eq_true (by kernel_rfl)) (by unfold Func.isWrapper; first | (rw [if_pos (by decide +kernel)]; kernel_rfl) | (rw [if_neg (by decide +kernel)]; exact ⟨rfl, rfl⟩))
    (fun os started H enc _ => lifted os started H enc)

theorem proved : Rows.RequestOthersSaid := over
#print axioms proved
end Go.Proofs.Ytphcdndohdnolaa.requestOthers
