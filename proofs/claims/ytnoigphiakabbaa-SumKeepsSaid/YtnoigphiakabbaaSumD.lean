/-
  THE WALKS OF THE LAWS OF grommetlaw02.
-/
import Derived.Test.YtnoigphiakabbaaSumC
import Derived.ProofKit
namespace Go.Proofs.Ytnoigphiakabbaa
open Go.RowKit

theorem info_u64 : (Try.prog.info? 26).map (fun i => (i.zero, i.size, i.bytes)) = some (some (.int .u64 0), 1, 8) := by kernel_rfl

set_option maxHeartbeats 400000 in
theorem walk_nil (x : Int) (w : World) :
    Calls Try.prog 5 #[.int .u64 x] w fun e w' => e = .returned (.bool true) ∧ Below w.heap.size w w' := by
  go_enter Try.func5, Try.ntmps5
  go_wp2_with fail
  refine (sum_add_nil _ _).mono ?_
  rintro e w' ⟨rfl, rfl⟩
  go_wp2_with fail
  refine (sum_now_nil _).mono ?_
  rintro e w' ⟨rfl, rfl⟩
  go_wp2_with fail
  refine (works_ok _).mono ?_
  rintro e w' ⟨rfl, hb⟩
  go_wp2_with fail
  go_ret
  exact ⟨rfl, hb⟩

set_option maxHeartbeats 400000 in
theorem walk_one (a : Option Addr) (cap : Nat) (zs : List Int) (hm : zs.length * 8 ≤ 140737488351232) (w : World) (hI : Ints w.heap.size .u64 w a zs) (m : Nat) (hm6 : m ≤ 65535) (y : Int) (hwf : ∀ n ∈ zs, u64 n) (hy : u64 y) :
    Calls Try.prog 4 #[.slice a zs.length cap, .int .u16 m, .int .u64 y] w fun e w' => e = .returned (.bool true) ∧ Below w.heap.size w w' := by
  by_cases hg : 1024 < zs.length
  · go_enter Try.func4, Try.ntmps4
    go_wp2_with fail
    refine (works_ok _).mono ?_
    rintro e w' ⟨rfl, hb⟩
    go_wp2_with fail
    go_ret
    exact ⟨rfl, hb⟩
  by_cases h0 : zs.length = 0
  · have H0 := Lib.hid h0
    have hz : ((zs.length : Int) == 0) = true := by simp [h0]
    clear h0
    go_enter Try.func4, Try.ntmps4
    go_wp2_with fail
    refine (works_ok _).mono ?_
    rintro e w' ⟨rfl, hb⟩
    go_wp2_with fail
    go_ret
    exact ⟨rfl, hb⟩
  have hz : ((zs.length : Int) == 0) = false := by rw [beq_eq_false_iff_ne]; omega
  have hgd : decide (1024 < (zs.length : Int)) = false := by simp; omega
  obtain ⟨i0, hi, hz0, hz1, hz2⟩ := info_parts info_u64
  have hk : m % zs.length < zs.length := Nat.mod_lt _ (by omega)
  go_enter Try.func4, Try.ntmps4
  go_wp2_with (at_builtin; go_must (refine wpList_append_ints _ rfl _ _ 22 rfl w.heap.size 26 i0 (.int .u64 0) 8 Try.underlying22 hi hz0 hz1 hz2 rfl _ 0 [] rfl (World.ownsRow_made _ #[] 0 (Nat.le_refl _) (Nat.zero_le _) (by simp)) a zs.length cap .u64 zs w.heap.size rfl rfl (hI.below ((Below.refl _ w).alloc (Nat.le_refl _) _)) (by unfold maxLen; omega) (by omega) (by simp) ?_; intro v' w1 hown hgrow; simp only [Nat.zero_add, List.nil_append] at hown; obtain ⟨g, cap', rfl, hg0, hg1⟩ := own_pos hown (by omega); have hcell := own_cell hown hk; have hfz := hown.frozenAt (m % zs.length)))
  have hb1 : Below w.heap.size w w1 := ((Below.refl _ w).alloc (Nat.le_refl _) _).grown hgrow (by simp) (fun k e => by cases e; exact Nat.le_refl _)
  clear hcell hfz hgrow
  have hown2 := own_set hown (m % zs.length) (bits BinOp.xor IntKind.u64 zs[m % zs.length] y)
  have hb2 : Below w.heap.size w (w1.setCell ⟨g, m % zs.length, none⟩ (.int .u64 (bits BinOp.xor IntKind.u64 zs[m % zs.length] y))) := hb1.setCell (p := ⟨g, m % zs.length, none⟩) hg0 _
  obtain ⟨ao, capo, hv, hlo, hIo⟩ := Ints.of_owns hown2
  cases hv
  have hfin := sum_one_b zs (m % zs.length) hk y hwf hy
  generalize zs.set (m % zs.length) (bits BinOp.xor IntKind.u64 zs[m % zs.length] y) = ys at *
  generalize (w1.setCell ⟨g, m % zs.length, none⟩ (.int .u64 (bits BinOp.xor IntKind.u64 zs[m % zs.length] y))) = w2 at *
  refine (sum_of_len _ _ _ ys hlo (by omega) _ hIo).mono ?_
  rintro e w3 ⟨rfl, hb3⟩
  have hb3' := hb2.trans (hb3.mono hb2.size)
  go_wp2_with fail
  refine (sum_of a cap zs (by omega) _ ((hI.below hb3').mono hb3'.size)).mono ?_
  rintro e w4 ⟨rfl, hb4⟩
  have hb4' := hb3'.trans (hb4.mono hb3'.size)
  go_wp2_with fail
  refine (works_ok _).mono ?_
  rintro e w5 ⟨rfl, hb5⟩
  have hb5' := hb4'.trans (hb5.mono hb4'.size)
  go_wp2_with fail
  go_ret
  exact ⟨rfl, hb5'⟩

set_option maxHeartbeats 1000000 in
theorem walk_keeps (a : Option Addr) (cap : Nat) (zs : List Int) (hm : zs.length * 8 ≤ 140737488351232) (a2 : Option Addr) (cap2 : Nat) (ys : List Int) (hm2 : ys.length * 8 ≤ 140737488351232) (w : World)
    (hI : Ints w.heap.size .u64 w a zs) (hI2 : Ints w.heap.size .u64 w a2 ys) (x : Int) :
    Calls Try.prog 6 #[.slice a zs.length cap, .slice a2 ys.length cap2, .int .u64 x] w fun e w' => e = .returned (.bool true) ∧ Below w.heap.size w w' := by
  by_cases hg : 2048 < zs.length + ys.length
  · have hgd : decide (2048 < (zs.length : Int) + (ys.length : Int)) = true := by simp; omega
    go_enter Try.func6, Try.ntmps6
    go_wp2_with fail
    refine (works_ok _).mono ?_
    rintro e w' ⟨rfl, hb⟩
    go_wp2_with fail
    go_ret
    exact ⟨rfl, hb⟩
  have hgd : decide (2048 < (zs.length : Int) + (ys.length : Int)) = false := by simp; omega
  obtain ⟨i0, hi, hz0, hz1, hz2⟩ := info_parts info_u64
  go_enter Try.func6, Try.ntmps6
  go_wp2_with (first
    | (at_builtin; refine wpList_append_ints _ rfl (.tmp 16) (.tmp 17) 22 rfl w.heap.size 26 i0 (.int .u64 0) 8 Try.underlying22 hi hz0 hz1 hz2 rfl _ 0 [] rfl (World.ownsRow_made _ #[] 0 (Nat.le_refl _) (Nat.zero_le _) (by simp)) a zs.length cap .u64 zs w.heap.size rfl rfl (hI.below ((Below.refl _ w).alloc (Nat.le_refl _) _)) (by unfold maxLen; omega) (by omega) (by simp) ?_; intro v1 w1 hown1 hgrow1; have hb1 : Below w.heap.size w w1 := ((Below.refl _ w).alloc (Nat.le_refl _) _).grown hgrow1 (by simp) (fun k e => by cases e; exact Nat.le_refl _); clear hgrow1; simp only [Nat.zero_add, List.nil_append] at hown1; have hs1 := hb1.size)
    | (at_builtin; refine wpList_append_ints _ rfl (.tmp 18) (.tmp 20) 22 rfl w.heap.size 26 i0 (.int .u64 0) 8 Try.underlying22 hi hz0 hz1 hz2 rfl _ _ _ rfl (hown1.alloc _) _ 1 1 .u64 [x] _ rfl rfl (Ints.one _ _ _ _) (by unfold maxLen; omega) (by omega) (by simp; omega) ?_; intro v2 w2 hown2 hgrow2; have hb2 : Below w.heap.size w w2 := Below.grownRow (hb1.alloc hs1 _) hgrow2 (by simp; omega) (hown1.alloc _) (Nat.le_refl _); clear hgrow2; rw [← List.map_append] at hown2; obtain ⟨g2, c2, rfl, hg2⟩ := own_pos hown2 (by omega); have hs2 := hb2.size))
  obtain ⟨ao, co, hv, hlo, hIo⟩ := Ints.of_owns hown2
  cases hv
  clear hown1 hown2 hb1 hs1
  refine (sum_of_len _ _ _ (zs ++ [x]) hlo (by omega) _ hIo).mono ?_
  rintro e w3 ⟨rfl, hb3⟩
  have hb3' := hb2.trans (hb3.mono hs2)
  have hs3 := hb3'.size
  clear hb2 hb3 hIo hlo
  go_wp2_with (first
    | (at_builtin; refine wpList_append_ints _ rfl (.tmp 23) (.tmp 24) 22 rfl w.heap.size 26 i0 (.int .u64 0) 8 Try.underlying22 hi hz0 hz1 hz2 rfl _ 0 [] rfl (World.ownsRow_made _ #[] 0 hs3 (Nat.zero_le _) (by simp)) a2 ys.length cap2 .u64 ys w.heap.size rfl rfl (hI2.below (hb3'.alloc hs3 _)) (by unfold maxLen; omega) (by omega) (by simp; omega) ?_; intro v4 w4 hown4 hgrow4; have hb4 : Below w.heap.size w w4 := (hb3'.alloc hs3 _).grown hgrow4 (by simp; omega) (fun k e => by cases e; exact hs3); clear hgrow4; simp only [Nat.zero_add, List.nil_append] at hown4; have hs4 := hb4.size)
    | (at_builtin; refine wpList_append_ints _ rfl (.tmp 25) (.tmp 27) 22 rfl w.heap.size 26 i0 (.int .u64 0) 8 Try.underlying22 hi hz0 hz1 hz2 rfl _ _ _ rfl (hown4.alloc _) _ 1 1 .u64 [x] _ rfl rfl (Ints.one _ _ _ _) (by unfold maxLen; omega) (by omega) (by simp; omega) ?_; intro v5 w5 hown5 hgrow5; have hb5 : Below w.heap.size w w5 := Below.grownRow (hb4.alloc hs4 _) hgrow5 (by simp; omega) (hown4.alloc _) (Nat.le_refl _); clear hgrow5; rw [← List.map_append] at hown5; obtain ⟨g5, c5, rfl, hg5⟩ := own_pos hown5 (by omega); have hs5 := hb5.size))
  obtain ⟨ap, cp, hv, hlp, hIp⟩ := Ints.of_owns hown5
  cases hv
  clear hown4 hown5 hb4 hs4
  refine (sum_of_len _ _ _ (ys ++ [x]) hlp (by omega) _ hIp).mono ?_
  rintro e w6 ⟨rfl, hb6⟩
  have hb6' := hb5.trans (hb6.mono hs5)
  have hs6 := hb6'.size
  clear hb5 hb6 hIp hlp
  go_wp2_with fail
  refine (sum_of_len a _ cap zs rfl (by omega) _ ((hI.below hb6').mono hs6)).mono ?_
  rintro e w7 ⟨rfl, hb7⟩
  have hb7' := hb6'.trans (hb7.mono hs6)
  have hs7 := hb7'.size
  go_wp2_with fail
  refine (sum_of_len a2 _ cap2 ys rfl (by omega) _ ((hI2.below hb7').mono hs7)).mono ?_
  rintro e w8 ⟨rfl, hb8⟩
  have hb8' := hb7'.trans (hb8.mono hs7)
  have hs8 := hb8'.size
  have hfin := sum_keeps_b zs ys x
  go_wp2_with fail
  refine (works_ok _).mono ?_
  rintro e w9 ⟨rfl, hb9⟩
  have hb9' := hb8'.trans (hb9.mono hs8)
  go_wp2_with fail
  go_ret
  exact ⟨rfl, hb9'⟩

end Go.Proofs.Ytnoigphiakabbaa
