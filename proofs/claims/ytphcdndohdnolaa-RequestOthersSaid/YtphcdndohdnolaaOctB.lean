/-
  THE WALK OF octet.Number.
-/
import Derived.Test.YtphcdndohdnolaaOctA
namespace Go.Proofs.Ytphcdndohdnolaa
open Go.RowKit

set_option maxHeartbeats 2000000 in
set_option maxRecDepth 100000 in
theorem number_any (a : Option Addr) (len cap : Nat) (zs : List Int) (hl : zs.length = len) (hreach : len ≤ 140737488354000) (n : Nat) (hn : (n : Int) ≤ 18446744073709551615) (w : World) (hI : Ints w.heap.size .u8 w a zs) :
    Calls Try.prog 29 #[.slice a len cap, .int .u64 (n : Int)] w (OwnR w (zs ++ numL n)) := by
  have hb : Lib.bitLen n ≤ 64 := Lib.bitLen_le n 64 (by omega) (by omega)
  have HK := Lib.hid (show nb n = (Lib.bitLen n + 7) / 8 from rfl)
  have hk8 : nb n ≤ 8 := by unfold nb; omega
  have HL := Lib.hid (show ∀ w, _ from fun w => len64 n hn w)
  have HNN := Lib.hid hn
  obtain ⟨b, hbb⟩ : ∃ b, Lib.bitLen n = b := ⟨_, rfl⟩
  rw [hbb] at hb HK
  simp only [hbb] at HL
  obtain ⟨i0, hi, hz0, hz1, hz2⟩ := info_parts8 info_u8
  clear hbb
  go_enter Try.func29, Try.ntmps29
  go_wp2_with fail
  refine (HL.out _).mono ?_
  rintro e w' ⟨rfl, rfl⟩
  go_upto_region 2 with (fail)
  rw [show ((b : Int) + 7) / 8 = (nb n : Int) by rw [HK.out]; omega]
  have HNL := Lib.hid (show numL n = (nb n : Int) :: bytesL (nb n) n from rfl)
  obtain ⟨K, hK⟩ : ∃ K, nb n = K := ⟨_, rfl⟩
  rw [hK] at hk8 HK HNL
  simp only [hK]
  clear hK HK hb HL
  go_wp2_with fail
  refine (clone_any a len cap zs hl (by omega) _ hI).mono ?_
  rintro e w1 ⟨v1, rfl, ho1, hw1⟩
  subst hl
  have hs0 := hw1.b.size
  go_wp2_with (at_builtin; refine wpList_append_ints _ rfl (.tmp 12) (.tmp 15) 25 rfl w.heap.size 5 i0 (.int .u8 0) 1 Try.underlying25 hi hz0 hz1 hz2 rfl _ _ _ rfl (ho1.alloc _) _ 1 1 .u8 [(K : Int)] _ rfl rfl (Ints.one _ _ _ _) (by unfold maxLen; omega) (by omega) (by simp; omega) ?_; intro v2 w2 hown2 hgrow2; have hb2 : Below w.heap.size w w2 := Below.grownRow (hw1.b.alloc hs0 _) hgrow2 (by simp; omega) (ho1.alloc _) (Nat.le_refl _); clear hgrow2; rw [← List.map_append] at hown2)
  clear ho1 hw1 hs0
  go_loopw [1, 6, 18] (fun nn o j wr => ∃ t : Nat, t ≤ K ∧ nn = .int .u64 ((n / 256 ^ t : Nat) : Int) ∧ j = .int .i64 t ∧ wr.ownsRow w.heap.size 5 1 o (zs.length + 1 + t) ((zs ++ ((K : Int) :: bytesL t n)).map (.int .u8)) ∧ Below w.heap.size w wr) (fun _ _ j _ => K - (intOf j).toNat)
  case atStart => exact ⟨0, Nat.zero_le _, by simp, rfl, hown2, hb2⟩
  case round =>
    clear hown2 hb2
    obtain ⟨t, ht, rfl, rfl, ho, hB⟩ := hrel
    have hs1 := hB.size
    by_cases hlt : t < K
    · have hm : ((n / 256 ^ t : Nat) : Int) ≤ 18446744073709551615 := by have := Nat.div_le_self n (256 ^ t); omega
      have HM := Lib.hid (show n / 256 ^ (t + 1) = n / 256 ^ t / 256 by rw [Nat.pow_succ, Nat.div_div_eq_div_mul])
      have HB := Lib.hid (bytesL_snoc t n)
      obtain ⟨m, hmm⟩ : ∃ m, n / 256 ^ t = m := ⟨_, rfl⟩
      rw [hmm] at hm HM HB
      simp only [hmm]
      clear hmm
      go_wp2_with (at_builtin; refine wpList_append_ints _ rfl (.tmp 20) (.tmp 23) 25 rfl w.heap.size 5 i0 (.int .u8 0) 1 Try.underlying25 hi hz0 hz1 hz2 rfl _ _ _ rfl (ho.alloc _) _ 1 1 .u8 [((m % 256 : Nat) : Int)] _ rfl rfl (Ints.one _ _ _ _) (by unfold maxLen; omega) (by omega) (by simp; omega) ?_; intro v3 w3 hown3 hgrow3; have hb3 : Below w.heap.size w w3 := Below.grownRow (hB.alloc hs1 _) hgrow3 (by simp; omega) (ho.alloc _) (Nat.le_refl _); clear hgrow3; rw [← List.map_append] at hown3)
      go_roundw
      case rel => exact ⟨t + 1, by omega, by rw [HM.out]; go_num, by go_num, by rw [HB.out]; simpa [Nat.add_assoc] using hown3, hb3⟩
      case measure => simp [intOf]; omega
    · obtain rfl : t = K := by omega
      go_wp2_with fail
      go_ret
      refine ⟨_, rfl, ?_, ⟨hB⟩⟩
      rw [HNL.out]
      simpa [bytesL_length, Nat.add_comm, Nat.add_left_comm, Nat.add_assoc] using ho

end Go.Proofs.Ytphcdndohdnolaa
