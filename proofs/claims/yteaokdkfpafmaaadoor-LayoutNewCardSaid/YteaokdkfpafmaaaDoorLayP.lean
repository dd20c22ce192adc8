/-
  THE WALKS OF grommetref04.Of, grommetref03.Same.
-/
import Derived.Test.YteaokdkfpafmaaaDoorLayO
namespace Go.Proofs.YteaokdkfpafmaaaDoor
open Go.RowKit

set_option maxRecDepth 100000 in
set_option maxHeartbeats 4000000 in
theorem rof_any {w0 w : World} (a : Option Addr) (len cap : Nat) (zs : List Int) (hl : zs.length = len) (hreach : len * 8 ≤ 140737488351232) (hw : ∀ n ∈ zs, isU64 n) (hI : Ints w0.heap.size .u64 w a zs) (h : At w0 w) :
    Calls Tryd.prog 36 #[.slice a len cap] w fun e w' => e = .returned (ofR zs) ∧ At w0 w' := by
  by_cases h8 : len < 8
  · have HR := Lib.hid (of_no (zs := zs) (by intro hh; have := hh.1; omega))
    have hd : decide ((len : Int) < 8) = true := by simp; omega
    clear hl
    go_enter Tryd.func36, Tryd.ntmps36
    go_wp2_with fail
    refine bodyPost_ret (v := .tuple #[.agg #[.int .i64 0, .int .i64 0, .int .i64 0], .bool false]) (by simp [results, Tryd.f36, go_sem]) rfl ?_
    exact ⟨ret_val HR.out, h.alloc _⟩
  · have hd : decide ((len : Int) < 8) = false := by simp; omega
    rcases hI with rfl | ⟨b, off, rfl, hb, hcs⟩
    · simp at hl; omega
    have c0 := hcs 0 (by omega)
    have hbw : b < w.heap.size := (cell_lt c0).1
    rw [Nat.add_zero] at c0
    have HL := Lib.hid hl
    have HW := Lib.hid hw
    have HCS := Lib.hid hcs
    clear hl hw hcs
    obtain ⟨z0, hz0⟩ : ∃ z : Int, zs[0]?.getD (0 : Int) = z := ⟨_, rfl⟩
    rw [hz0] at c0
    have HZ0 := Lib.hid hz0
    clear hz0
    by_cases hm0 : z0 = 32762617960297063
    · have hd0 : (z0 != 32762617960297063) = false := by simp [hm0]
      have HM0 := Lib.hid hm0
      clear hm0
      go_enter Tryd.func36, Tryd.ntmps36
      go_wp2_with fail
      clear c0 hd0
      have rc := Rc.new w 0 0 0 24
      have a1 : At w0 (w.alloc (.cells #[.int .i64 0, .int .i64 0, .int .i64 0] 24)) := h.alloc _
      have hcs1 : ∀ j, j < zs.length → (w.alloc (.cells #[.int .i64 0, .int .i64 0, .int .i64 0] 24)).cell? ⟨b, off + j, none⟩ = some (.int .u64 (zs[j]?.getD 0)) := fun j hj => (World.cell?_alloc_past _ b (off + j) hbw).trans (HCS.out j hj)
      have hB1 : w.heap.size < (w.alloc (.cells #[.int .i64 0, .int .i64 0, .int .i64 0] 24)).heap.size := by simp
      obtain ⟨B, hB⟩ : ∃ B, w.heap.size = B := ⟨_, rfl⟩
      have hB0 : w0.heap.size ≤ B := by rw [← hB]; exact h.b.size
      rw [hB] at rc hbw hB1
      simp only [hB]
      generalize (w.alloc (.cells #[.int .i64 0, .int .i64 0, .int .i64 0] 24)) = w1 at *
      have HC1 := Lib.hid hcs1
      clear hcs1 HCS hB h
      go_loop [4] (fun j => ∃ k : Nat, (1 ≤ k ∧ k ≤ 4) ∧ (∀ i, 1 ≤ i → i < k → zs[i]?.getD (0 : Int) ≤ 512) ∧ j = .int .i64 k) (fun j => 4 - (intOf j).toNat)
      case atStart => exact ⟨1, ⟨by omega, by omega⟩, (fun i h1 h2 => by omega), rfl⟩
      case round =>
        obtain ⟨k, hk, hall, rfl⟩ := hrel
        have HA := Lib.hid hall
        clear hall
        by_cases hk4 : k < 4
        · have ck := HC1.out k (by have := HL.out; omega)
          have HK := Lib.hid (show ∀ z : Int, zs[k]?.getD 0 = z → (z ≤ 512 ∨ ¬ z ≤ 512) from fun z _ => Decidable.em _)
          obtain ⟨z, hz⟩ : ∃ z : Int, zs[k]?.getD (0 : Int) = z := ⟨_, rfl⟩
          rw [hz] at ck
          have HZ := Lib.hid hz
          clear hz HK
          by_cases hz5 : z ≤ 512
          · go_wp2_with fail
            go_round
            case rel => exact ⟨k + 1, ⟨by omega, by omega⟩, fun i h1 h2 => by
              by_cases e : i = k
              · rw [e, HZ.out]; exact hz5
              · exact HA.out i h1 (by omega), by go_num⟩
            case measure => simp [intOf]; omega
          · have HR := Lib.hid (of_no (zs := zs) (by
              intro hh
              have e := HZ.out
              have : k = 1 ∨ k = 2 ∨ k = 3 := by omega
              rcases this with rfl | rfl | rfl
              · exact hz5 (e ▸ hh.2.2.1)
              · exact hz5 (e ▸ hh.2.2.2.1)
              · exact hz5 (e ▸ hh.2.2.2.2.1)))
            have q0 := rc.c0
            have q1 := rc.c1
            have q2 := rc.c2
            have q3 := rc.f0
            have q4 := rc.f1
            have q5 := rc.f2
            go_wp2_with fail
            refine bodyPost_ret (v := .tuple #[.agg #[.int .i64 0, .int .i64 0, .int .i64 0], .bool false]) (by simp [results, Tryd.f36, go_sem, q0, q1, q2]) rfl ?_
            exact ⟨ret_val HR.out, a1.set3 hB0 0 0 0⟩
        · have hk44 : 4 ≤ k := by omega
          have c1 := HC1.out 1 (by have := HL.out; omega)
          have c2 := HC1.out 2 (by have := HL.out; omega)
          have c3 := HC1.out 3 (by have := HL.out; omega)
          have m1 := HA.out 1 (by omega) (by omega)
          have m2 := HA.out 2 (by omega) (by omega)
          have m3 := HA.out 3 (by omega) (by omega)
          have r1 : (0 : Int) ≤ zs[1]?.getD 0 := by have := HL.out; have := (HW.out _ (List.getElem_mem (show 1 < zs.length by omega))).1; simpa [show 1 < zs.length by omega] using this
          have r2 : (0 : Int) ≤ zs[2]?.getD 0 := by have := HL.out; have := (HW.out _ (List.getElem_mem (show 2 < zs.length by omega))).1; simpa [show 2 < zs.length by omega] using this
          have r3 : (0 : Int) ≤ zs[3]?.getD 0 := by have := HL.out; have := (HW.out _ (List.getElem_mem (show 3 < zs.length by omega))).1; simpa [show 3 < zs.length by omega] using this
          obtain ⟨z1, hz1⟩ : ∃ z : Int, zs[1]?.getD (0 : Int) = z := ⟨_, rfl⟩
          obtain ⟨z2, hz2⟩ : ∃ z : Int, zs[2]?.getD (0 : Int) = z := ⟨_, rfl⟩
          obtain ⟨z3, hz3⟩ : ∃ z : Int, zs[3]?.getD (0 : Int) = z := ⟨_, rfl⟩
          have hP : ofP zs ↔ (z0 = 32762617960297063 ∧ z1 ≤ 512 ∧ z2 ≤ 512 ∧ z3 ≤ 512 ∧ mayP ⟨z1, z2, z3⟩ ∧ wordsV ⟨z1, z2, z3⟩ ≤ (len : Int)) := by
            unfold ofP ofG; rw [HZ0.out, hz1, hz2, hz3, HL.out]
            exact ⟨fun hh => hh.2, fun hh => ⟨by omega, hh⟩⟩
          rw [hz1] at c1 r1 m1
          rw [hz2] at c2 r2 m2
          rw [hz3] at c3 r3 m3
          have HP := Lib.hid hP
          have HZ1 := Lib.hid hz1
          have HZ2 := Lib.hid hz2
          have HZ3 := Lib.hid hz3
          clear hP hz1 hz2 hz3 HC1 HA HW
          have q0 := rc.c0
          have q1 := rc.c1
          have q2 := rc.c2
          have q3 := rc.f0
          have q4 := rc.f1
          have q5 := rc.f2
          have hbw1 : b < w1.heap.size := by omega
          go_upto_region 8 with (fail)
          go_region
          have bx := (Box.new w1 ⟨z1, z2, z3⟩ 24).at (w1 := (w1.alloc (.cells #[.int .i64 z1, .int .i64 z2, .int .i64 z3] 24)).drew) ⟨(Below.refl _ _).drew, (a1.alloc _).least⟩
          replace rc := rc.at (w' := (w1.alloc (.cells #[.int .i64 z1, .int .i64 z2, .int .i64 z3] 24)).drew) ⟨((Below.refl _ w1).alloc (Nat.le_refl _) _).drew, a1.least⟩
          replace a1 := (a1.alloc (.cells #[.int .i64 z1, .int .i64 z2, .int .i64 z3] 24)).drew
          clear q0 q1 q2 q3 q4 q5
          obtain ⟨X, hX⟩ : ∃ X, w1.heap.size = X := ⟨_, rfl⟩
          rw [hX] at bx
          simp only [hX]
          generalize (w1.alloc (.cells #[.int .i64 z1, .int .i64 z2, .int .i64 z3] 24)).drew = w2 at *
          clear hX hbw1 hB1 c1 c2 c3
          have q0 := rc.c0
          have q1 := rc.c1
          have q2 := rc.c2
          have q3 := rc.f0
          have q4 := rc.f1
          have q5 := rc.f2
          have x0 := bx.c0
          have x1 := bx.c1
          have x2 := bx.c2
          by_cases hm : mayP ⟨z1, z2, z3⟩
          · have HM := Lib.hid (mayB_true.2 hm)
            have HMp := Lib.hid hm
            clear hm
            go_wp2_with fail
            refine (rmay_any ⟨z1, z2, z3⟩ a1.self).mono ?_
            rintro e w3 ⟨rfl, k'⟩
            rw [HM.out]
            replace rc := rc.at k'
            replace bx := bx.at k'
            replace a1 := a1.trans k'
            clear k' x0 x1 x2
            clear q0 q1 q2 q3 q4 q5
            have q0 := rc.c0
            have q1 := rc.c1
            have q2 := rc.c2
            have q3 := rc.f0
            have q4 := rc.f1
            have q5 := rc.f2
            have x0 := bx.c0
            have x1 := bx.c1
            have x2 := bx.c2
            go_wp2_with fail
            refine (rwords_any ⟨z1, z2, z3⟩ a1.self).mono ?_
            rintro e w4 ⟨rfl, k'⟩
            replace rc := rc.at k'
            replace bx := bx.at k'
            replace a1 := a1.trans k'
            clear k' x0 x1 x2
            clear q0 q1 q2 q3 q4 q5
            have q0 := rc.c0
            have q1 := rc.c1
            have q2 := rc.c2
            have q3 := rc.f0
            have q4 := rc.f1
            have q5 := rc.f2
            have x0 := bx.c0
            have x1 := bx.c1
            have x2 := bx.c2
            by_cases hwd : wordsV ⟨z1, z2, z3⟩ ≤ (len : Int)
            · have hdw : decide ((len : Int) < wordsV ⟨z1, z2, z3⟩) = false := by rw [decide_eq_false_iff_not]; omega
              have HR := Lib.hid (of_yes (zs := zs) (HP.out.2 ⟨HM0.out, m1, m2, m3, HMp.out, hwd⟩))
              go_wp2_with fail
              refine bodyPost_ret (v := .tuple #[.agg #[.int .i64 z1, .int .i64 z2, .int .i64 z3], .bool true]) (by simp [results, Tryd.f36, go_sem, q0, q1, q2]) rfl ?_
              exact ⟨ret_val (by rw [HR.out, HZ1.out, HZ2.out, HZ3.out]), a1.set3 hB0 z1 z2 z3⟩
            · have hdw : decide ((len : Int) < wordsV ⟨z1, z2, z3⟩) = true := by rw [decide_eq_true_eq]; omega
              have HR := Lib.hid (of_no (zs := zs) (fun hh => hwd (HP.out.1 hh).2.2.2.2.2))
              go_wp2_with fail
              refine bodyPost_ret (v := .tuple #[.agg #[.int .i64 0, .int .i64 0, .int .i64 0], .bool false]) (by simp [results, Tryd.f36, go_sem, q0, q1, q2]) rfl ?_
              exact ⟨ret_val HR.out, a1.set3 hB0 0 0 0⟩
          · have HM := Lib.hid (mayB_false.2 hm)
            have HR := Lib.hid (of_no (zs := zs) (fun hh => hm (HP.out.1 hh).2.2.2.2.1))
            clear hm
            go_wp2_with fail
            refine (rmay_any ⟨z1, z2, z3⟩ a1.self).mono ?_
            rintro e w3 ⟨rfl, k'⟩
            rw [HM.out]
            replace rc := rc.at k'
            replace a1 := a1.trans k'
            clear k' x0 x1 x2
            clear q0 q1 q2 q3 q4 q5
            have q0 := rc.c0
            have q1 := rc.c1
            have q2 := rc.c2
            have q3 := rc.f0
            have q4 := rc.f1
            have q5 := rc.f2
            go_wp2_with fail
            refine bodyPost_ret (v := .tuple #[.agg #[.int .i64 0, .int .i64 0, .int .i64 0], .bool false]) (by simp [results, Tryd.f36, go_sem, q0, q1, q2]) rfl ?_
            exact ⟨ret_val HR.out, a1.set3 hB0 0 0 0⟩
    · have hd0 : (z0 != 32762617960297063) = true := by simp [hm0]
      have HR := Lib.hid (of_no (zs := zs) (by intro hh; exact hm0 (HZ0.out ▸ hh.2.1)))
      clear hm0
      go_enter Tryd.func36, Tryd.ntmps36
      go_wp2_with fail
      refine bodyPost_ret (v := .tuple #[.agg #[.int .i64 0, .int .i64 0, .int .i64 0], .bool false]) (by simp [results, Tryd.f36, go_sem]) rfl ?_
      exact ⟨ret_val HR.out, h.alloc _⟩

end Go.Proofs.YteaokdkfpafmaaaDoor
