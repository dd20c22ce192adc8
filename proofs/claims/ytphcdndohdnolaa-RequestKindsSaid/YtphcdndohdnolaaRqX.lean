/-
  THE WALK OF RequestKinds.
-/
import Derived.Deep.DeepCutAuto
import Derived.Test.YtphcdndohdnolaaRqW
namespace Go.Proofs.Ytphcdndohdnolaa
open Go.RowKit Go.Shelf
set_option linter.unusedVariables false

def kindRq (k : Int) : Rq := ⟨k, 0, 0, 0, 0, ⟨#[]⟩, ⟨#[]⟩, ⟨#[]⟩⟩
theorem kindRq_ok {k : Int} (h : isByte k) : smallRq (kindRq k) := by
  have b0 : (0 : Int) ≤ 0 ∧ (0 : Int) ≤ 18446744073709551615 := ⟨by decide, by decide⟩
  have b1 : isByte 0 := ⟨by decide, by decide⟩
  exact ⟨⟨h, b1, b0, b0, b0, Nat.zero_le _, Nat.zero_le _, Nat.zero_le _⟩, Nat.zero_le _⟩
theorem kindRq_may (k : Int) : mayQ (kindRq k) = known k := by
  by_cases hk : known k = true
  · rcases known_cases hk with rfl | rfl | rfl | rfl | rfl | rfl | rfl | rfl | rfl | rfl | rfl | rfl | rfl <;> decide +kernel
  · have hk' : known k = false := by simpa using hk
    rw [hk']; exact may_unknown hk'
theorem kindRq_put {k : Int} (hk : known k = true) : ∃ z, putQ (kindRq k) = k :: z ∧ 2 ≤ (putQ (kindRq k)).length ∧ (putQ (kindRq k)).length ≤ 200019 := by
  have hb : isByte k := by simp only [known, Bool.and_eq_true, decide_eq_true_eq] at hk; exact ⟨by omega, by omega⟩
  have h1 : putQ (kindRq k) = putL (kindRq k) := if_pos (by rw [kindRq_may, hk])
  refine ⟨_, h1, ?_, by rw [h1]; exact putL_len (kindRq_ok hb)⟩
  rcases known_cases hk with rfl | rfl | rfl | rfl | rfl | rfl | rfl | rfl | rfl | rfl | rfl | rfl | rfl <;> decide +kernel

set_option maxRecDepth 100000 in
set_option maxHeartbeats 4000000 in
attribute [local go_sem high] eql_rq in
theorem walk_kinds (k : Int) (hb : isByte k) (w : World) : Calls Try.prog 6 #[.int .u8 k] w fun e w' => e = .returned (.bool true) ∧ Below w.heap.size w w' := by
  have HP := Lib.hid (fun W => show Calls Try.prog 15 #[.agg #[.int .u8 k, .int .u8 0, .int .u64 0, .int .u64 0, .int .u64 0, .string ⟨#[]⟩, .string ⟨#[]⟩, .string ⟨#[]⟩]] W (OwnR W (putQ (kindRq k))) from putq_any (kindRq k) (kindRq_ok hb) W)
  have HM := Lib.hid (fun W => show Calls Try.prog 13 #[.agg #[.int .u8 k, .int .u8 0, .int .u64 0, .int .u64 0, .int .u64 0, .string ⟨#[]⟩, .string ⟨#[]⟩, .string ⟨#[]⟩]] W (fun e w' => e = .returned (.bool (mayQ (kindRq k))) ∧ Nw W w') from may_any (kindRq k) (kindRq_ok hb) W)
  rw [kindRq_may] at HM
  have HMK := Lib.hid (kindRq_may k)
  have HBY := Lib.hid (kindRq_ok hb)
  have hn0 : Nw w (w.alloc (.cells #[.int .u8 k, .int .u8 0, .int .u64 0, .int .u64 0, .int .u64 0, .string ⟨#[]⟩, .string ⟨#[]⟩, .string ⟨#[]⟩] 24)) := Nw.refl.alloc _
  have R0 : RqAt (w.alloc (.cells #[.int .u8 k, .int .u8 0, .int .u64 0, .int .u64 0, .int .u64 0, .string ⟨#[]⟩, .string ⟨#[]⟩, .string ⟨#[]⟩] 24)) w.heap.size (kindRq k) := RqAt.new w (kindRq k)
  by_cases hk : known k = true
  · obtain ⟨z, hz, hz2, hz3⟩ := kindRq_put hk
    have hkk := hk
    simp only [known, Bool.and_eq_true, decide_eq_true_eq] at hkk
    obtain ⟨k1, k2⟩ := hkk
    obtain ⟨n, hn⟩ : ∃ n, (putQ (kindRq k)).length = n := ⟨_, rfl⟩
    rw [hn] at hz2 hz3
    have HZ := Lib.hid hz
    have HN := Lib.hid hn
    have HPL := Lib.hid (show putQ (kindRq k) = putL (kindRq k) from if_pos (by rw [HMK.out, hk]))
    have HG := Lib.hid (get_put_ok HBY.out.ok (by rw [HMK.out, hk]))
    have HPB := Lib.hid (putL_byte HBY.out.ok)
    rw [hk] at HM
    clear hz hn hk
    go_enter Try.func6, Try.ntmps6
    go_upto_region 2 with fail
    generalize w.alloc (.cells #[.int .u8 k, .int .u8 0, .int .u64 0, .int .u64 0, .int .u64 0, .string ⟨#[]⟩, .string ⟨#[]⟩, .string ⟨#[]⟩] 24) = W1 at R0 hn0 ⊢
    have HR0 := Lib.hid R0
    have HN0 := Lib.hid hn0
    obtain ⟨c0, c1, c2, c3, c4, c5, c6, c7, _⟩ := R0
    dsimp only [kindRq] at c0 c1 c2 c3 c4 c5 c6 c7
    clear hn0
    go_wp2_with fail
    refine (HP.out _).mono ?_
    intro e w2 h2
    obtain ⟨a2, cp2, rfl, hI2, hN2, hc2⟩ := OwnR.slice h2
    rw [HN.out]
    have HR2 := Lib.hid (HR0.out.nw hN2)
    have HN2 := Lib.hid (HN0.out.trans hN2)
    have HI2 := Lib.hid hI2
    clear h2 hI2 hN2 hc2 c0 c1 c2 c3 c4 c5 c6 c7
    obtain ⟨c0, c1, c2, c3, c4, c5, c6, c7, _⟩ := HR2.out
    dsimp only [kindRq] at c0 c1 c2 c3 c4 c5 c6 c7
    go_wp2_with fail
    refine (HM.out _).mono ?_
    rintro e w3 ⟨rfl, hN3⟩
    have HR3 := Lib.hid (HR2.out.nw hN3)
    have HN3 := Lib.hid (HN2.out.trans hN3)
    have hI3 := hN3.ints HI2.out
    have HI3 := Lib.hid hI3
    rcases hI3 with h0 | ⟨b, off, rfl, hb3, hcs⟩
    · rw [HZ.out] at h0; cases h0
    have cb := hcs 0 (by rw [HN.out]; omega)
    rw [HZ.out, Nat.add_zero] at cb
    rw [show ((k :: z)[0]?.getD 0) = k from rfl] at cb
    have HGT := Lib.hid (get_any (some ⟨b, off, none⟩) n cp2 (putL (kindRq k)) (by rw [← HPL.out]; exact HN.out) (by omega) HPB.out w3 (by rw [← HPL.out]; exact HI3.out))
    clear c0 c1 c2 c3 c4 c5 c6 c7 hcs hN3
    go_wp2_with fail
    refine HGT.out.mono ?_
    rintro e w4 ⟨rfl, hN4⟩
    obtain ⟨_, g2, g3⟩ := HG.out
    rw [g2, g3]
    have HN4 := Lib.hid (HN3.out.trans hN4)
    have R4 := RqAt.new w4 (kindRq k)
    obtain ⟨q0, q1, q2, q3, q4, q5, q6, q7, _⟩ := (HR3.out.nw hN4).nw (Nw.refl.alloc (.cells #[.int .u8 (kindRq k).kind, .int .u8 (kindRq k).flags, .int .u64 (kindRq k).fd, .int .u64 (kindRq k).pos, .int .u64 (kindRq k).size, .string (kindRq k).path, .string (kindRq k).dst, .string (kindRq k).data] 24))
    unfold rqV
    clear g2 g3 hN4 cb R4
    go_wp2_with fail
    refine (works_any _).mono ?_
    rintro e w5 ⟨rfl, hN5⟩
    go_wp2_with fail
    go_ret
    exact ⟨rfl, ((HN4.out.alloc _).trans hN5).b⟩
  · have hk' : known k = false := by simpa using hk
    have hn : ¬ (1 ≤ k ∧ k ≤ 13) := by rintro ⟨q1, q2⟩; simp [known, q1, q2] at hk'
    have HPE := Lib.hid (show putQ (kindRq k) = [] from if_neg (by rw [HMK.out, hk']; decide))
    rw [hk'] at HM
    rw [HPE.out] at HP
    clear hk hk'
    by_cases hk1 : 1 ≤ k
    all_goals
      have hk2 : True := trivial
      first
        | have hk3 : 13 < k := by omega
        | have hk3 : k < 1 := by omega
      clear hn
      go_enter Try.func6, Try.ntmps6
      go_upto_region 2 with fail
      generalize w.alloc (.cells #[.int .u8 k, .int .u8 0, .int .u64 0, .int .u64 0, .int .u64 0, .string ⟨#[]⟩, .string ⟨#[]⟩, .string ⟨#[]⟩] 24) = W1 at R0 hn0 ⊢
      have HR0 := Lib.hid R0
      have HN0 := Lib.hid hn0
      obtain ⟨c0, c1, c2, c3, c4, c5, c6, c7, _⟩ := R0
      dsimp only [kindRq] at c0 c1 c2 c3 c4 c5 c6 c7
      clear hn0
      go_wp2_with fail
      refine (HP.out _).mono ?_
      intro e w2 h2
      obtain ⟨a2, cp2, rfl, hI2, hN2, hc2⟩ := OwnR.slice h2
      rw [show ([] : List Int).length = 0 from rfl]
      have HR2 := Lib.hid (HR0.out.nw hN2)
      have HN2 := Lib.hid (HN0.out.trans hN2)
      have HI2 := Lib.hid hI2
      clear h2 hI2 hN2 hc2 c0 c1 c2 c3 c4 c5 c6 c7
      obtain ⟨c0, c1, c2, c3, c4, c5, c6, c7, _⟩ := HR2.out
      dsimp only [kindRq] at c0 c1 c2 c3 c4 c5 c6 c7
      go_wp2_with fail
      refine (HM.out _).mono ?_
      rintro e w3 ⟨rfl, hN3⟩
      have HN3 := Lib.hid (HN2.out.trans hN3)
      have HGT := Lib.hid (get_any a2 0 cp2 [] rfl (by decide) (by simp) w3 (hN3.ints HI2.out))
      clear c0 c1 c2 c3 c4 c5 c6 c7 hN3
      go_wp2_with fail
      refine HGT.out.mono ?_
      rintro e w4 ⟨rfl, hN4⟩
      rw [ex0_get, ex0_getE]
      have HN4 := Lib.hid (HN3.out.trans hN4)
      unfold rqV zeroRq
      clear hN4
      go_wp2_with fail
      refine (works_any _).mono ?_
      rintro e w5 ⟨rfl, hN5⟩
      go_wp2_with fail
      go_ret
      exact ⟨rfl, ((HN4.out.alloc _).trans hN5).b⟩

end Go.Proofs.Ytphcdndohdnolaa
