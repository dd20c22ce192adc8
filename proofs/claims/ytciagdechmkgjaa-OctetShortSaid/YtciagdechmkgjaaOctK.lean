/-
  THE WALK OF OctetShort.
-/
import Derived.Test.YtciagdechmkgjaaOctJ
namespace Go.Proofs.Ytciagdechmkgjaa
open Go.RowKit Go.Shelf
set_option linter.unusedVariables false

theorem numL_get0 (n : Nat) : (numL n)[0]?.getD 0 = (nb n : Int) := by simp [numL]
theorem numL_get (n j : Nat) (h : j < nb n) : (numL n)[j + 1]?.getD 0 = ((n / 256 ^ j % 256 : Nat) : Int) := by
  rw [numL, List.getElem?_cons_succ, bytesL_get _ _ _ h]

set_option maxRecDepth 100000 in
set_option maxHeartbeats 4000000 in
theorem walk_short (n m : Nat) (hn : isU64 n) (hm : isU64 m) (w : World) :
    Calls Try.prog 3 #[.int .u64 (n : Int), .int .u64 (m : Int)] w fun e w' => e = .returned (.bool true) ∧ Below w.heap.size w w' := by
  have hn' : n < 18446744073709551616 := by have := hn.2; omega
  have hm' : m < 18446744073709551616 := by have := hm.2; omega
  have HNU := Lib.hid hn
  have HMU := Lib.hid hm
  have hk8 := nb_le hn'
  have hk8' := nb_le hm'
  obtain ⟨k, hk⟩ : ∃ k, nb n = k := ⟨_, rfl⟩
  obtain ⟨k', hk'⟩ : ∃ k', nb m = k' := ⟨_, rfl⟩
  have HLn : Hid ((numL n).length = k + 1) := by show _ = _; rw [numL_length, hk]; omega
  have HLm : Hid ((numL m).length = k' + 1) := by show _ = _; rw [numL_length, hk']; omega
  have H0 : Hid ((numL n)[0]?.getD 0 = (k : Int)) := by show _ = _; rw [numL_get0, hk]
  have HJ : Hid (∀ j, j < k → (numL n)[j + 1]?.getD 0 = ((n / 256 ^ j % 256 : Nat) : Int)) := fun j hj => numL_get n j (by omega)
  have HT : Hid (1 ≤ k → n / 256 ^ (k - 1) % 256 ≠ 0) := fun h => by have := nb_top hn' (by omega); rw [hk] at this; exact this
  have HZ : Hid (n / 256 ^ k = 0) := by show _ = _; have := (nb_spec n hn').1; rw [hk] at this; exact Nat.div_eq_of_lt this
  have HM : m ≤ n → Hid (k' ≤ k) := fun h => by show _ ≤ _; rw [← hk, ← hk']; exact nb_mono hn' hm' h
  rw [hk] at hk8
  rw [hk'] at hk8'
  have HA := Lib.hid (number_none n (by have := hn.2; exact this))
  have HB := Lib.hid (number_none m (by have := hm.2; exact this))
  obtain ⟨zn, hzn⟩ : ∃ z, numL n = z := ⟨_, rfl⟩
  obtain ⟨zm, hzm⟩ : ∃ z, numL m = z := ⟨_, rfl⟩
  rw [hzn] at HLn H0 HJ HA
  rw [hzm] at HLm HB
  clear hzn hzm hk hk' hn hm hn' hm'
  go_enter Try.func3, Try.ntmps3
  go_wp2_with fail
  refine (HA.out _).mono ?_
  intro e w1 h1
  obtain ⟨a1, c1, rfl, hI1, hN1, hc1⟩ := h1.slice
  rw [HLn.out] at hc1 ⊢
  rcases hI1 with hz | ⟨b, off, rfl, hb, hcs⟩
  · have := HLn.out; rw [hz] at this; simp at this
  rw [HLn.out] at hcs
  have HCS := Lib.hid hcs
  have HN1 := Lib.hid hN1
  clear h1 hN1 hcs
  go_wp2_with fail
  refine (HB.out _).mono ?_
  intro e w2 h2
  obtain ⟨a2, c2, rfl, hI2, hN2, hc2⟩ := h2.slice
  rw [HLm.out] at hc2 ⊢
  have hcs2 : ∀ j, j < k + 1 → w2.cell? ⟨b, off + j, none⟩ = some (.int .u8 (zn[j]?.getD 0)) := fun j hj => (hN2.b.cell (p := ⟨b, off + j, none⟩) hb).trans (HCS.out j hj)
  have HN2 := Lib.hid (HN1.out.trans hN2)
  have g0 := hcs2 0 (by omega)
  rw [H0.out, Nat.add_zero] at g0
  have HC2 := Lib.hid hcs2
  clear h2 hI2 hN2 hcs2 HCS HN1 HA HB
  have hloop : 0 < k → ∃ x : Int, w2.cell? ⟨b, off + k, none⟩ = some (.int .u8 x) ∧ (x == 0) = false := fun h => by
    have h1 := HC2.out (k - 1 + 1) (by omega)
    rw [HJ.out (k - 1) (by omega), show k - 1 + 1 = k by omega] at h1
    refine ⟨_, h1, ?_⟩
    have := HT.out h
    rw [beq_eq_false_iff_ne]; omega
  have HLP := Lib.hid hloop
  clear hloop
  have HV : Hid (∀ i : Nat, i < k → (((n / 256 ^ (i + 1) : Nat) : Int) * 256 + ((n / 256 ^ i % 256 : Nat) : Int) = ((n / 256 ^ i : Nat) : Int)) ∧ n / 256 ^ i ≤ n) := fun i _ => by
    have : n / 256 ^ (i + 1) = n / 256 ^ i / 256 := by rw [Nat.pow_succ, Nat.div_div_eq_div_mul]
    exact ⟨by omega, Nat.div_le_self _ _⟩
  by_cases hk0 : k = 0
  · subst hk0
    go_wp2_with fail
    go_loop [7, 8] (fun v i => i = .int .i64 0 ∧ v = .int .u64 0) (fun _ i => (intOf i).toNat)
    case atStart => exact ⟨rfl, rfl⟩
    case round =>
    obtain ⟨rfl, rfl⟩ := hrel
    have hz0 : n = 0 := by have := HZ.out; simpa using this
    subst hz0
    by_cases hnm : 0 < m
    · go_wp2_with fail
      refine (works_any _).mono ?_
      rintro e w9 ⟨rfl, hN9⟩
      go_wp2_with fail
      go_ret
      exact ⟨rfl, (HN2.out.trans hN9).b⟩
    · obtain rfl : m = 0 := by omega
      have hkk := HM (by omega)
      have hkk' := hkk.out
      obtain rfl : k' = 0 := by omega
      go_wp2_with fail
      refine (works_any _).mono ?_
      rintro e w9 ⟨rfl, hN9⟩
      go_wp2_with fail
      go_ret
      exact ⟨rfl, (HN2.out.trans hN9).b⟩
  · obtain ⟨x, hx, hx0⟩ := HLP.out (by omega)
    have hkp : 0 < k := by omega
    clear hk0
    go_wp2_with fail
    go_loop [7, 8] (fun v i => ∃ j : Nat, j ≤ k ∧ i = .int .i64 j ∧ v = .int .u64 ((n / 256 ^ j : Nat) : Int)) (fun _ i => (intOf i).toNat)
    case atStart => exact ⟨k, Nat.le_refl _, rfl, by rw [HZ.out]; rfl⟩
    case round =>
    obtain ⟨j, hj, rfl, rfl⟩ := hrel
    cases j with
    | succ i =>
      have hc := HC2.out (i + 1) (by omega)
      rw [HJ.out i (by omega)] at hc
      obtain ⟨hv, hv2⟩ := HV.out i (by omega)
      have hu := HNU.out.2
      obtain ⟨va, hva⟩ : ∃ va, n / 256 ^ (i + 1) = va := ⟨_, rfl⟩
      obtain ⟨vc, hvc⟩ : ∃ vc, n / 256 ^ i % 256 = vc := ⟨_, rfl⟩
      obtain ⟨vd, hvd⟩ : ∃ vd, n / 256 ^ i = vd := ⟨_, rfl⟩
      have hvc2 : vc < 256 := by omega
      rw [hvc] at hc hv
      rw [hva] at hv ⊢
      rw [hvd] at hv hv2
      have b1 : (va : Int) * 256 ≤ 18446744073709551615 := by omega
      have b2 : (va : Int) * 256 + vc ≤ 18446744073709551615 := by omega
      have HVV := Lib.hid hv
      have HVD := Lib.hid hvd
      clear hv hv2 hu hva hvc hvd
      go_wp2_with fail
      go_round
      case rel => exact ⟨i, by omega, by go_num, by rw [HVD.out, ← HVV.out]⟩
      case measure => simp [intOf]
    | zero =>
    simp only [Nat.pow_zero, Nat.div_one]
    clear hx hx0
    by_cases hnm : n < m
    · go_wp2_with fail
      refine (works_any _).mono ?_
      rintro e w9 ⟨rfl, hN9⟩
      go_wp2_with fail
      go_ret
      exact ⟨rfl, (HN2.out.trans hN9).b⟩
    · have hkk := HM (by omega)
      have hkk' := hkk.out
      clear hkk
      go_wp2_with fail
      refine (works_any _).mono ?_
      rintro e w9 ⟨rfl, hN9⟩
      go_wp2_with fail
      go_ret
      exact ⟨rfl, (HN2.out.trans hN9).b⟩

end Go.Proofs.Ytciagdechmkgjaa
