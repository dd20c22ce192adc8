/-
  RequestBack: for every input the law returns true, and each argument reads behind the call as it read before. No condition.
  The frame of the row (printed by a program of mine, after the kit's own shell), with the reach; the walk is in the texts that it imports.
-/
import Derived.Test.YtphcdndohdnolaaRows
import Derived.Test.YtphcdndohdnolaaRqV
import Derived.Test.YtphcdndohdnolaaRqO
import Derived.WalkKit
import Derived.ProofKit
import Derived.OpenShut
import Derived.ShutString
import Derived.ChangeOld
import Derived.Below
import Derived.SizedLaws
namespace Go.Proofs.Ytphcdndohdnolaa.requestBack
open Go.ChangeShapes Go.WideShapes Go.ChangeAt Go.RowKit
open Go.ChangeMaps (open_string shut_string)
set_option linter.unusedVariables false

theorem own : ownKnob Try.prog.godebug = none := by kernel_rfl
theorem laidOut : laidOutB Try.prog = true := by kernel_rfl

theorem walk (r0 : Rq) (r1 : Rq) (a2 : Option Addr) (len2 cap2 : Nat) (z2 : List Int) (a3 : Int) (w : World) (w0 : okRq r0) (w1 : okRq r1) (w2 : IsSl .u8 1 w a2 len2 cap2 z2) (w3 : (Lit.int .u16 a3).wf = true) :
    Calls Try.prog 4 #[rqV r0, rqV r1, .slice a2 len2 cap2, .int .u16 a3] w fun e w' => e = .returned (.bool true) ∧ Below w.heap.size w w' := by
  obtain ⟨ys, hy1, hy2, hy3, hyI, hyw⟩ := Ints.of_sl w2
  obtain ⟨h5, h6⟩ := u16_of_wf w3
  obtain ⟨k, rfl⟩ := Int.eq_ofNat_of_zero_le h5
  exact walk_rback _ _ w0 w1 _ _ _ ys hy1 hy2 (by omega) (fun x hx => byte_of_wf (hyw x hx)) k (by omega) w hyI

set_option maxRecDepth 100000 in
theorem lifted (os : Os) (started : os.Started) (H : Type) (enc : TypeId × Value → H) :
    ReturnsInHanded {} Try.checked os 4 .any (Rows.requestBackSpec.pre6 enc Try.prog Try.f4 Rows.requestBackRow.domain false) (Rows.requestBackSpec.post enc Try.prog Try.f4 false true false false) := by
  refine returnsInHanded_of_change_sized (C := Try.checked) own started (by kernel_rfl) Try.func4
    (ChangeSpec.witness6 (enc := enc) (C := Try.checked) false ⟨#[], #[.agg #[.int .u8 0, .int .u8 0, .int .u64 0, .int .u64 0, .int .u64 0, .string ⟨#[]⟩, .string ⟨#[]⟩, .string ⟨#[]⟩], .agg #[.int .u8 0, .int .u8 0, .int .u64 0, .int .u64 0, .int .u64 0, .string ⟨#[]⟩, .string ⟨#[]⟩, .string ⟨#[]⟩], .slice none 0 0, .int .u16 0], []⟩ 8 (by kernel_rfl) (by kernel_rfl) (by kernel_rfl) (by kernel_rfl)) ?_
  intro W base args ds gs before hval0 hW _ hsz0 _
  have hsz : (DataW.weightsEach Try.prog (Try.f4.params.toList ++ Rows.requestBackSpec.plain.varTypes Try.prog) (ds ++ gs)).all (· ≤ reachBytes) = true := hsz0
  clear hsz0
  have hval : ∀ (j : Nat) t v, Try.f4.params[j]? = some t → args[j]? = some v → Value.okWide Try.prog W .any base t v := hval0
  have hW' := hW
  obtain ⟨p, q, hA0, hV, rfl, _, _⟩ := hW
  have hA : DataW.TrodAll enc Try.prog W 0 (fun _ => true) true Try.f4.params.toList args.toList ds p := hA0
  rw [Try.params4] at hA hval hsz
  obtain ⟨v0, vs0, d0, ds0, p0, q0, hargs, rfl, rfl, h0, r0⟩ := trodAll_cons hA
  obtain ⟨v1, vs1, d1, ds1, p1, q1, rfl, rfl, rfl, h1, r1⟩ := trodAll_cons r0
  obtain ⟨v2, vs2, d2, ds2, p2, q2, rfl, rfl, rfl, h2, r2⟩ := trodAll_cons r1
  obtain ⟨v3, vs3, d3, ds3, p3, q3, rfl, rfl, rfl, h3, r3⟩ := trodAll_cons r2
  obtain ⟨rfl, rfl, rfl⟩ := trodAll_nil r3
  obtain rfl : args = #[v0, v1, v2, v3] := by cases args; simp_all
  obtain ⟨rfl, rfl⟩ := trodVars_none hV
  have k0 := h0
  have lt0 : ∀ x ∈ p0, x.block < W.heap.size := by obtain ⟨m, hm⟩ := k0; exact DataW.trod_lt m _ _ _ hm
  obtain ⟨c00, c01, c02, c03, c04, c05, c06, c07, y00, y01, y02, y03, y04, y05, y06, y07, m0, rfl, rfl, e00, e01, e02, e03, e04, e05, e06, e07⟩ := open_agg8 Try.underlying24 (by kernel_rfl) (by kernel_rfl) (hval 0 24 v0 rfl rfl) h0
  obtain ⟨z00, g00, rfl, u00⟩ := DataW.trod_int Try.underlying5 e00
  obtain ⟨z01, g01, rfl, u01⟩ := DataW.trod_int Try.underlying5 e01
  obtain ⟨z02, g02, rfl, u02⟩ := DataW.trod_int Try.underlying22 e02
  obtain ⟨z03, g03, rfl, u03⟩ := DataW.trod_int Try.underlying22 e03
  obtain ⟨z04, g04, rfl, u04⟩ := DataW.trod_int Try.underlying22 e04
  obtain ⟨z05, g05, rfl, u05⟩ := DataW.trod_string Try.underlying9 e05
  obtain ⟨z06, g06, rfl, u06⟩ := DataW.trod_string Try.underlying9 e06
  obtain ⟨z07, g07, rfl, u07⟩ := DataW.trod_string Try.underlying9 e07
  obtain rfl : c00 = .int .u8 z00 := by simpa using g00
  obtain rfl : c01 = .int .u8 z01 := by simpa using g01
  obtain rfl : c02 = .int .u64 z02 := by simpa using g02
  obtain rfl : c03 = .int .u64 z03 := by simpa using g03
  obtain rfl : c04 = .int .u64 z04 := by simpa using g04
  obtain rfl : c05 = .string z05 := by simpa using g05
  obtain rfl : c06 = .string z06 := by simpa using g06
  obtain rfl : c07 = .string z07 := by simpa using g07
  have x05 : z05.size ≤ 140737488351232 := by have := sized_field hsz (j := 0) (i := 5) rfl rfl Try.underlying24 rfl rfl; simp only [reachBytes, Array.length_toList] at this; exact this
  have x06 : z06.size ≤ 140737488351232 := by have := sized_field hsz (j := 0) (i := 6) rfl rfl Try.underlying24 rfl rfl; simp only [reachBytes, Array.length_toList] at this; exact this
  have x07 : z07.size ≤ 140737488351232 := by have := sized_field hsz (j := 0) (i := 7) rfl rfl Try.underlying24 rfl rfl; simp only [reachBytes, Array.length_toList] at this; exact this
  have k1 := h1
  have lt1 : ∀ x ∈ p1, x.block < W.heap.size := by obtain ⟨m, hm⟩ := k1; exact DataW.trod_lt m _ _ _ hm
  obtain ⟨c10, c11, c12, c13, c14, c15, c16, c17, y10, y11, y12, y13, y14, y15, y16, y17, m1, rfl, rfl, e10, e11, e12, e13, e14, e15, e16, e17⟩ := open_agg8 Try.underlying24 (by kernel_rfl) (by kernel_rfl) (hval 1 24 v1 rfl rfl) h1
  obtain ⟨z10, g10, rfl, u10⟩ := DataW.trod_int Try.underlying5 e10
  obtain ⟨z11, g11, rfl, u11⟩ := DataW.trod_int Try.underlying5 e11
  obtain ⟨z12, g12, rfl, u12⟩ := DataW.trod_int Try.underlying22 e12
  obtain ⟨z13, g13, rfl, u13⟩ := DataW.trod_int Try.underlying22 e13
  obtain ⟨z14, g14, rfl, u14⟩ := DataW.trod_int Try.underlying22 e14
  obtain ⟨z15, g15, rfl, u15⟩ := DataW.trod_string Try.underlying9 e15
  obtain ⟨z16, g16, rfl, u16⟩ := DataW.trod_string Try.underlying9 e16
  obtain ⟨z17, g17, rfl, u17⟩ := DataW.trod_string Try.underlying9 e17
  obtain rfl : c10 = .int .u8 z10 := by simpa using g10
  obtain rfl : c11 = .int .u8 z11 := by simpa using g11
  obtain rfl : c12 = .int .u64 z12 := by simpa using g12
  obtain rfl : c13 = .int .u64 z13 := by simpa using g13
  obtain rfl : c14 = .int .u64 z14 := by simpa using g14
  obtain rfl : c15 = .string z15 := by simpa using g15
  obtain rfl : c16 = .string z16 := by simpa using g16
  obtain rfl : c17 = .string z17 := by simpa using g17
  have x15 : z15.size ≤ 140737488351232 := by have := sized_field hsz (j := 1) (i := 5) rfl rfl Try.underlying24 rfl rfl; simp only [reachBytes, Array.length_toList] at this; exact this
  have x16 : z16.size ≤ 140737488351232 := by have := sized_field hsz (j := 1) (i := 6) rfl rfl Try.underlying24 rfl rfl; simp only [reachBytes, Array.length_toList] at this; exact this
  have x17 : z17.size ≤ 140737488351232 := by have := sized_field hsz (j := 1) (i := 7) rfl rfl Try.underlying24 rfl rfl; simp only [reachBytes, Array.length_toList] at this; exact this
  obtain ⟨a2, len2, cap2, rfl⟩ := okWide_slice Try.underlying25 (hval 2 25 v2 rfl rfl)
  have k2 := h2
  have lt2 : ∀ x ∈ p2, x.block < W.heap.size := by obtain ⟨m, hm⟩ := k2; exact DataW.trod_lt m _ _ _ hm
  obtain ⟨z2, w2⟩ : ∃ zs, IsSl .u8 1 W a2 len2 cap2 zs := by
    obtain ⟨fuel, hf⟩ := h2
    rcases open_ints Try.underlying25 Try.underlying5 (by kernel_rfl) hf with ⟨hcs, _⟩ | ⟨x, l, c, zs, hcs, _, hl, hm, hz, hx, hcell, hwz⟩
    · simp [Value.cells] at hcs
      obtain ⟨rfl, rfl, rfl⟩ := hcs
      exact ⟨[], .inl ⟨rfl, rfl, rfl, rfl⟩⟩
    · simp [Value.cells] at hcs
      obtain ⟨rfl, rfl, rfl⟩ := hcs
      have hz' : zs.length = cap2 := by simpa using hz
      refine ⟨zs, .inr ⟨_, rfl, hl, hm, ?_, hz', hcell, hwz⟩⟩
      obtain ⟨hd, _⟩ := Prod.mk.inj hx
      subst hd
      have := sized_slice hsz (j := 2) (t := 25) (e := 5) rfl rfl Try.underlying25
      rw [show Try.prog.bytesOf 5 = 1 from by kernel_rfl] at this
      simp only [lits, List.length_map, List.length_take, List.length_drop, reachBytes] at this
      omega
  obtain ⟨a3, rfl, rfl, rfl, w3⟩ := open_int Try.underlying33 (hval 3 33 v3 rfl rfl) h3
  clear hA0 hval0
  refine (walk ⟨z00, z01, z02, z03, z04, z05, z06, z07⟩ ⟨z10, z11, z12, z13, z14, z15, z16, z17⟩ a2 len2 cap2 z2 a3 W ⟨byte_of_wf u00, byte_of_wf u01, u64_of_wf u02, u64_of_wf u03, u64_of_wf u04, x05, x06, x07⟩ ⟨byte_of_wf u10, byte_of_wf u11, u64_of_wf u12, u64_of_wf u13, u64_of_wf u14, x15, x16, x17⟩ w2 w3).mono fun e W' ⟨he, bel⟩ => ?_
  subst he
  exact ⟨_, rfl, _, _, _, [], _, [], hW', trodAll_mk1 (shut_bool Try.underlying4 _), (trodAll_cons_mk (Below.trod laidOut (by kernel_rfl) (of_decide_eq_true (by kernel_rfl)) k0 bel lt0) (trodAll_cons_mk (Below.trod laidOut (by kernel_rfl) (of_decide_eq_true (by kernel_rfl)) k1 bel lt1) (trodAll_cons_mk (Below.trod laidOut (by kernel_rfl) (of_decide_eq_true (by kernel_rfl)) k2 bel lt2) (trodAll_cons_mk (shut_int Try.underlying33 w3) trodAll_mk0)))), rfl, bel.frame _, fun h => by cases h⟩

theorem over : Rows.requestBackRow.holds Try.pinned (OpenSpec.ofChange Rows.requestBackSpec) :=
  OpenClaim.holds_of_wide 4 Try.f4 rfl rfl rfl rfl rfl rfl rfl ⟨rfl, rfl, rfl, rfl, rfl⟩ rfl rfl rfl rfl rfl (by kernel_rfl) Try.func4 (by kernel_rfl)
    (of_decide_eq_true (by kernel_rfl)) (by unfold Func.isWrapper; first | (rw [if_pos (by decide +kernel)]; kernel_rfl) | (rw [if_neg (by decide +kernel)]; exact ⟨rfl, rfl⟩))
    (fun os started H enc _ => lifted os started H enc)

theorem proved : Rows.RequestBackSaid := over
#print axioms proved
end Go.Proofs.Ytphcdndohdnolaa.requestBack
