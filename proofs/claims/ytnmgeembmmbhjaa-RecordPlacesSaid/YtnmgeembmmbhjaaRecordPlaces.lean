/-
  RecordPlaces: for every input the law returns true, and each argument reads behind the call as it read before. No condition.
  The frame of the row (printed by a program of mine, after the kit's own shell), with the reach; the walk is in the texts that it imports.
-/
import Derived.Test.YtnmgeembmmbhjaaRows
import Derived.Test.YtnmgeembmmbhjaaRcX
import Derived.WalkKit
import Derived.ProofKit
import Derived.OpenShut
import Derived.ShutString
import Derived.ChangeOld
import Derived.Below
import Derived.SizedLaws
namespace Go.Proofs.Ytnmgeembmmbhjaa.recordPlaces
open Go.ChangeShapes Go.WideShapes Go.ChangeAt Go.RowKit
open Go.ChangeMaps (open_string shut_string)
set_option linter.unusedVariables false

theorem own : ownKnob Try.prog.godebug = none := by kernel_rfl
theorem laidOut : laidOutB Try.prog = true := by kernel_rfl

theorem walk (g0 : G) (a1 : Option Addr) (len1 cap1 : Nat) (s1 : List (Int × Int)) (w : World)  (w1 : s1.length = len1 ∧ len1 ≤ 9223372036854775807 ∧ Pairs .i64 .u64 w.heap.size w a1 s1 ∧ ∀ x ∈ s1, (Lit.int .i64 x.1).wf = true ∧ (Lit.int .u64 x.2).wf = true) :
    Calls Try.prog 5 #[gV g0, .slice a1 len1 cap1] w fun e w' => e = .returned (.bool true) ∧ Below w.heap.size w w' := by
  obtain ⟨h1, h2, h3, h4⟩ := w1
  exact walk_places _ _ _ _ _ h1 h2 (fun x hx => (h4 x hx).1) w h3

set_option maxRecDepth 100000 in
theorem lifted (os : Os) (started : os.Started) (H : Type) (enc : TypeId × Value → H) :
    ReturnsInHanded {} Try.checked os 5 .any (Rows.recordPlacesSpec.pre6 enc Try.prog Try.f5 Rows.recordPlacesRow.domain false) (Rows.recordPlacesSpec.post enc Try.prog Try.f5 false true false false) := by
  refine returnsInHanded_of_change_sized (C := Try.checked) own started (by kernel_rfl) Try.func5
    (ChangeSpec.witness6 (enc := enc) (C := Try.checked) false ⟨#[], #[.agg #[.int .i64 0, .int .i64 0, .int .i64 0], .slice none 0 0], []⟩ 8 (by kernel_rfl) (by kernel_rfl) (by kernel_rfl) (by kernel_rfl)) ?_
  intro W base args ds gs before hval0 hW _ hsz0 _
  have hsz : (DataW.weightsEach Try.prog (Try.f5.params.toList ++ Rows.recordPlacesSpec.plain.varTypes Try.prog) (ds ++ gs)).all (· ≤ reachBytes) = true := hsz0
  clear hsz0
  have hval : ∀ (j : Nat) t v, Try.f5.params[j]? = some t → args[j]? = some v → Value.okWide Try.prog W .any base t v := hval0
  have hW' := hW
  obtain ⟨p, q, hA0, hV, rfl, _, _⟩ := hW
  have hA : DataW.TrodAll enc Try.prog W 0 (fun _ => true) true Try.f5.params.toList args.toList ds p := hA0
  rw [Try.params5] at hA hval hsz
  obtain ⟨v0, vs0, d0, ds0, p0, q0, hargs, rfl, rfl, h0, r0⟩ := trodAll_cons hA
  obtain ⟨v1, vs1, d1, ds1, p1, q1, rfl, rfl, rfl, h1, r1⟩ := trodAll_cons r0
  obtain ⟨rfl, rfl, rfl⟩ := trodAll_nil r1
  obtain rfl : args = #[v0, v1] := by cases args; simp_all
  obtain ⟨rfl, rfl⟩ := trodVars_none hV
  have k0 := h0
  have lt0 : ∀ x ∈ p0, x.block < W.heap.size := by obtain ⟨m, hm⟩ := k0; exact DataW.trod_lt m _ _ _ hm
  obtain ⟨c00, c01, c02, y00, y01, y02, m0, rfl, rfl, rfl, e00, e01, e02⟩ := Joins.open_agg3 Try.underlying23 (by kernel_rfl) (by kernel_rfl) (hval 0 23 v0 rfl rfl) h0
  obtain ⟨g0w, q00, _, _⟩ := DataW.trod_int Try.underlying3 e00
  obtain ⟨g0i, q01, _, _⟩ := DataW.trod_int Try.underlying3 e01
  obtain ⟨g0b, q02, _, _⟩ := DataW.trod_int Try.underlying3 e02
  obtain rfl : c00 = .int .i64 g0w := by simpa using q00
  obtain rfl : c01 = .int .i64 g0i := by simpa using q01
  obtain rfl : c02 = .int .i64 g0b := by simpa using q02
  have k1 := h1
  have lt1 : ∀ x ∈ p1, x.block < W.heap.size := by obtain ⟨m, hm⟩ := k1; exact DataW.trod_lt m _ _ _ hm
  obtain ⟨a1, len1, cap1, rfl, _, hm1, hr1⟩ := open_recs Try.underlying24 Try.underlying49 (by kernel_rfl) (by kernel_rfl) (by decide) (hval 1 24 v1 rfl rfl) h1
  obtain ⟨s1, sl1, sr1, sq1⟩ := pairs_of (k1 := .i64) (k2 := .u64) rfl rfl rfl Try.underlying3 Try.underlying27 hr1
  clear hA0 hval0
  refine (walk ⟨g0w, g0i, g0b⟩ a1 len1 cap1 s1 W ⟨sl1, hm1, sr1, sq1⟩).mono fun e W' ⟨he, bel⟩ => ?_
  subst he
  exact ⟨_, rfl, _, _, _, [], _, [], hW', trodAll_mk1 (shut_bool Try.underlying4 _), (trodAll_cons_mk (Below.trod laidOut (by kernel_rfl) (of_decide_eq_true (by kernel_rfl)) k0 bel lt0) (trodAll_cons_mk (Below.trod laidOut (by kernel_rfl) (of_decide_eq_true (by kernel_rfl)) k1 bel lt1) trodAll_mk0)), rfl, bel.frame _, fun h => by cases h⟩

theorem over : Rows.recordPlacesRow.holds Try.pinned (OpenSpec.ofChange Rows.recordPlacesSpec) :=
  OpenClaim.holds_of_wide 5 Try.f5 rfl rfl rfl rfl rfl rfl rfl ⟨rfl, rfl, rfl, rfl, rfl⟩ rfl rfl rfl rfl rfl (by kernel_rfl) Try.func5 (by kernel_rfl)
    (of_decide_eq_true (by kernel_rfl)) (by unfold Func.isWrapper; first | (rw [if_pos (by decide +kernel)]; kernel_rfl) | (rw [if_neg (by decide +kernel)]; exact ⟨rfl, rfl⟩))
    (fun os started H enc _ => lifted os started H enc)

theorem proved : Rows.RecordPlacesSaid := over
#print axioms proved
end Go.Proofs.Ytnmgeembmmbhjaa.recordPlaces
