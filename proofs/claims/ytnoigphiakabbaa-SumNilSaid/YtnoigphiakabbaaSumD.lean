/-
  THE WALKS OF THE LAWS OF grommetlaw02.
-/
import Derived.Test.YtnoigphiakabbaaSumC
import Derived.ProofKit
namespace Go.Proofs.Ytnoigphiakabbaa
open Go.RowKit

theorem info_u64 : (Try.prog.info? 26).map (fun i => (i.zero, i.size, i.bytes)) = some (some (.int .u64 0), 1, 8) := by kernel_rfl

set_option maxHeartbeats 400000 in
theorem walk_nil (x : Int) (w : World) :
    Calls Try.prog 5 #[.int .u64 x] w fun e w' => e = .returned (.bool true) ∧ Below w.heap.size w w' := by
  go_enter Try.func5, Try.ntmps5
  go_wp2_with fail
  refine (sum_add_nil _ _).mono ?_
  rintro e w' ⟨rfl, rfl⟩
  go_wp2_with fail
  refine (sum_now_nil _).mono ?_
  rintro e w' ⟨rfl, rfl⟩
  go_wp2_with fail
  refine (works_ok _).mono ?_
  rintro e w' ⟨rfl, hb⟩
  go_wp2_with fail
  go_ret
  exact ⟨rfl, hb⟩

set_option maxHeartbeats 400000 in
theorem walk_one (a : Option Addr) (cap : Nat) (zs : List Int) (hm : zs.length ≤ maxLen) (w : World) (hI : Ints w.heap.size .u64 w a zs) (m : Nat) (hm6 : m ≤ 65535) (y : Int) (hwf : ∀ n ∈ zs, u64 n) (hy : u64 y) :
    Calls Try.prog 4 #[.slice a zs.length cap, .int .u16 m, .int .u64 y] w fun e w' => e = .returned (.bool true) ∧ Below w.heap.size w w' := by
  unfold maxLen at hm
  by_cases hg : 1024 < zs.length
  · go_enter Try.func4, Try.ntmps4
    go_wp2_with fail
    refine (works_ok _).mono ?_
    rintro e w' ⟨rfl, hb⟩
    go_wp2_with fail
    go_ret
    exact ⟨rfl, hb⟩
  by_cases h0 : zs.length = 0
  · have H0 := Lib.hid h0
    have hz : ((zs.length : Int) == 0) = true := by simp [h0]
    clear h0
    go_enter Try.func4, Try.ntmps4
    go_wp2_with fail
    refine (works_ok _).mono ?_
    rintro e w' ⟨rfl, hb⟩
    go_wp2_with fail
    go_ret
    exact ⟨rfl, hb⟩
  have hz : ((zs.length : Int) == 0) = false := by rw [beq_eq_false_iff_ne]; omega
  have hgd : decide (1024 < (zs.length : Int)) = false := by simp; omega
  obtain ⟨i0, hi, hz0, hz1, hz2⟩ := info_parts info_u64
  have hk : m % zs.length < zs.length := Nat.mod_lt _ (by omega)
  go_enter Try.func4, Try.ntmps4
  go_wp2_with (at_builtin; go_must (refine wpList_append_ints _ rfl _ _ 22 rfl w.heap.size 26 i0 (.int .u64 0) 8 Try.underlying22 hi hz0 hz1 hz2 rfl _ 0 [] rfl (World.ownsRow_made _ #[] 0 (Nat.le_refl _) (Nat.zero_le _) (by simp)) a zs.length cap .u64 zs w.heap.size rfl rfl (hI.below ((Below.refl _ w).alloc (Nat.le_refl _) _)) (by unfold maxLen; omega) (by omega) (by simp) ?_; intro v' w1 hown hgrow; simp only [Nat.zero_add, List.nil_append] at hown; obtain ⟨g, cap', rfl, hg0, hg1⟩ := own_pos hown (by omega); have hcell := own_cell hown hk; have hfz := hown.frozenAt (m % zs.length)))
  have hb1 : Below w.heap.size w w1 := ((Below.refl _ w).alloc (Nat.le_refl _) _).grown hgrow (by simp) (fun k e => by cases e; exact Nat.le_refl _)
  clear hcell hfz hgrow
  have hown2 := own_set hown (m % zs.length) (bits BinOp.xor IntKind.u64 zs[m % zs.length] y)
  have hb2 : Below w.heap.size w (w1.setCell ⟨g, m % zs.length, none⟩ (.int .u64 (bits BinOp.xor IntKind.u64 zs[m % zs.length] y))) := hb1.setCell (p := ⟨g, m % zs.length, none⟩) hg0 _
  obtain ⟨ao, capo, hv, hlo, hIo⟩ := Ints.of_owns hown2
  cases hv
  have hfin := sum_one_b zs (m % zs.length) hk y hwf hy
  generalize zs.set (m % zs.length) (bits BinOp.xor IntKind.u64 zs[m % zs.length] y) = ys at *
  generalize (w1.setCell ⟨g, m % zs.length, none⟩ (.int .u64 (bits BinOp.xor IntKind.u64 zs[m % zs.length] y))) = w2 at *
  refine (sum_of_len _ _ _ ys hlo (by omega) _ hIo).mono ?_
  rintro e w3 ⟨rfl, hb3⟩
  have hb3' := hb2.trans (hb3.mono hb2.size)
  go_wp2_with fail
  refine (sum_of a cap zs (by omega) _ ((hI.below hb3').mono hb3'.size)).mono ?_
  rintro e w4 ⟨rfl, hb4⟩
  have hb4' := hb3'.trans (hb4.mono hb3'.size)
  go_wp2_with fail
  refine (works_ok _).mono ?_
  rintro e w5 ⟨rfl, hb5⟩
  have hb5' := hb4'.trans (hb5.mono hb4'.size)
  go_wp2_with fail
  go_ret
  exact ⟨rfl, hb5'⟩

end Go.Proofs.Ytnoigphiakabbaa
