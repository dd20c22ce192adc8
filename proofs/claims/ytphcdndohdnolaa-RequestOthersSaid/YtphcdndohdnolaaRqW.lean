/-
  THE WALKS OF grommetlaw20.works, Few.
-/
import Derived.Test.YtphcdndohdnolaaRqI
namespace Go.Proofs.Ytphcdndohdnolaa
open Go.RowKit Go.Shelf
set_option linter.unusedVariables false

abbrev exC : Rq := ⟨2, 0, 3, 0, 0, ⟨#[]⟩, ⟨#[]⟩, ⟨#[]⟩⟩
abbrev exM : Rq := ⟨8, 0, 0, 0, 0, ⟨#[47, 97]⟩, ⟨#[]⟩, ⟨#[]⟩⟩
theorem exC_put : putQ exC = [2, 1, 3] := by decide +kernel
theorem exM_put : putQ exM = [8, 1, 2, 47, 97] := by decide +kernel
theorem exM_get : getQ [8, 1, 2, 47, 97] = exM := by decide +kernel
theorem exM_getE : getE [8, 1, 2, 47, 97] = 0 := by decide +kernel
theorem ex0_get : getQ [] = zeroRq := by decide +kernel
theorem ex0_getE : getE [] = 4 := by decide +kernel
theorem ex0_may : mayQ zeroRq = false := by decide +kernel
theorem exC_str : strOfNums [2, 1, 3] = ⟨#[2, 1, 3]⟩ := by decide +kernel
theorem exM_str : strOfNums [8, 1, 2, 47, 97] = ⟨#[8, 1, 2, 47, 97]⟩ := by decide +kernel
theorem exC_ok : smallRq exC := ⟨⟨⟨by decide, by decide⟩, ⟨by decide, by decide⟩, ⟨by decide, by decide⟩, ⟨by decide, by decide⟩, ⟨by decide, by decide⟩, by decide, by decide, by decide⟩, by decide⟩
theorem exM_ok : smallRq exM := ⟨⟨⟨by decide, by decide⟩, ⟨by decide, by decide⟩, ⟨by decide, by decide⟩, ⟨by decide, by decide⟩, ⟨by decide, by decide⟩, by decide, by decide, by decide⟩, by decide⟩
theorem ex0_ok : smallRq zeroRq := ⟨⟨⟨by decide, by decide⟩, ⟨by decide, by decide⟩, ⟨by decide, by decide⟩, ⟨by decide, by decide⟩, ⟨by decide, by decide⟩, by decide, by decide, by decide⟩, by decide⟩
theorem exM_byte : ∀ x ∈ ([8, 1, 2, 47, 97] : List Int), isByte x := by
  intro x hx
  simp only [List.mem_cons, List.not_mem_nil, or_false] at hx
  rcases hx with rfl | rfl | rfl | rfl | rfl <;> exact ⟨by decide, by decide⟩

set_option maxRecDepth 100000 in
set_option maxHeartbeats 4000000 in
theorem works_any (w : World) : Calls Try.prog 10 #[] w fun e w' => e = .returned (.bool true) ∧ Nw w w' := by
  have HP1 := Lib.hid (fun W => putq_any exC exC_ok W)
  have HP2 := Lib.hid (fun W => putq_any exM exM_ok W)
  have HM0 := Lib.hid (fun W => show Calls Try.prog 13 #[.agg #[.int .u8 0, .int .u8 0, .int .u64 0, .int .u64 0, .int .u64 0, .string ⟨#[]⟩, .string ⟨#[]⟩, .string ⟨#[]⟩]] W (fun e w' => e = .returned (.bool (mayQ zeroRq)) ∧ Nw W w') from may_any zeroRq ex0_ok W)
  rw [exC_put] at HP1
  rw [exM_put] at HP2
  rw [ex0_may] at HM0
  unfold rqV at HP1 HP2
  dsimp only at HP1 HP2
  go_enter Try.func10, Try.ntmps10
  go_wp2_with fail
  refine (HP1.out _).mono ?_
  intro e w1 h1
  obtain ⟨a1, c1, rfl, hI1, hN1, hc1⟩ := OwnR.slice h1
  rw [show ([2, 1, 3] : List Int).length = 3 from rfl]
  clear h1 HP1
  go_wp2_with fail
  refine (HP2.out _).mono ?_
  intro e w2 h2
  obtain ⟨a2, c2, rfl, hI2, hN2, hc2⟩ := OwnR.slice h2
  rw [show ([8, 1, 2, 47, 97] : List Int).length = 5 from rfl]
  have HI1 := Lib.hid (hN2.ints hI1)
  have HN2 := Lib.hid (hN1.trans hN2)
  have HG := Lib.hid (get_any a2 5 c2 _ rfl (by decide) exM_byte w2 hI2)
  have HI2 := Lib.hid hI2
  clear h2 HP2 hI1 hI2 hN1 hN2 hc1 hc2
  go_wp2_with fail
  refine HG.out.mono ?_
  rintro e w3 ⟨rfl, hN3⟩
  rw [exM_get, exM_getE]
  unfold rqV
  dsimp only
  have R3 := RqAt.new w3 exM
  have HI1' := Lib.hid ((hN3.alloc (.cells #[.int .u8 8, .int .u8 0, .int .u64 0, .int .u64 0, .int .u64 0, .string ⟨#[47, 97]⟩, .string ⟨#[]⟩, .string ⟨#[]⟩] 24)).ints HI1.out)
  have HI2' := Lib.hid ((hN3.alloc (.cells #[.int .u8 8, .int .u8 0, .int .u64 0, .int .u64 0, .int .u64 0, .string ⟨#[47, 97]⟩, .string ⟨#[]⟩, .string ⟨#[]⟩] 24)).ints HI2.out)
  have HN3 := Lib.hid ((HN2.out.trans hN3).alloc (.cells #[.int .u8 8, .int .u8 0, .int .u64 0, .int .u64 0, .int .u64 0, .string ⟨#[47, 97]⟩, .string ⟨#[]⟩, .string ⟨#[]⟩] 24))
  have HR3 := Lib.hid R3
  clear HI1 HI2 hN3 R3
  go_upto_region 4 with fail
  dsimp only at HR3
  generalize w3.alloc (.cells #[.int .u8 8, .int .u8 0, .int .u64 0, .int .u64 0, .int .u64 0, .string ⟨#[47, 97]⟩, .string ⟨#[]⟩, .string ⟨#[]⟩] 24) = w4 at HI1' HI2' HN3 HR3 ⊢
  generalize w3.heap.size = rb at HR3 ⊢
  have HG0 := Lib.hid (get_any none 0 0 [] rfl (by decide) (by simp) w4 (.inl rfl))
  go_wp2_with fail
  refine HG0.out.mono ?_
  rintro e w5 ⟨rfl, hN5⟩
  rw [ex0_get, ex0_getE]
  unfold rqV zeroRq
  dsimp only
  have hA := hN5.alloc (.cells #[.int .u8 0, .int .u8 0, .int .u64 0, .int .u64 0, .int .u64 0, .string ByteArray.empty, .string ByteArray.empty, .string ByteArray.empty] 24)
  have hv1 := cv8 c1 (len := 3) rfl (hA.ints HI1'.out)
  have hv2 := cv8 c2 (len := 5) rfl (hA.ints HI2'.out)
  rw [exC_str] at hv1
  rw [exM_str] at hv2
  obtain ⟨q0, q1, q2, q3, q4, q5, q6, q7, _⟩ := HR3.out.nw hA
  dsimp only at q0 q5
  have HA := Lib.hid (HN3.out.trans hA)
  clear hA hN5 q1 q2 q3 q4 q6 q7
  go_wp2_with fail
  refine (HM0.out _).mono ?_
  rintro e w6 ⟨rfl, hN6⟩
  go_wp2_with fail
  go_ret
  exact ⟨rfl, HA.out.trans hN6⟩

set_option maxHeartbeats 1000000 in
theorem few_any (r : Rq) (hp : r.path.size ≤ 140737488351232) (hd : r.dst.size ≤ 140737488351232) (ht : r.data.size ≤ 140737488351232) (w : World) : Calls Try.prog 9 #[rqV r] w fun e w' => e = .returned (.bool (decide ((r.path.size : Int) + r.dst.size + r.data.size ≤ 2048))) ∧ Nw w w' := by
  have R0 := RqAt.new w r
  have hn0 : Nw w (w.alloc (.cells #[.int .u8 r.kind, .int .u8 r.flags, .int .u64 r.fd, .int .u64 r.pos, .int .u64 r.size, .string r.path, .string r.dst, .string r.data] 24)) := Nw.refl.alloc _
  unfold rqV
  have HN := Lib.hid hn0
  obtain ⟨c0, c1, c2, c3, c4, c5, c6, c7, _⟩ := R0
  clear hn0
  go_enter Try.func9, Try.ntmps9
  go_wp2_with fail
  go_ret
  exact ⟨rfl, HN.out⟩

end Go.Proofs.Ytphcdndohdnolaa
