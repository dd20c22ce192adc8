/-
  THE WALK OF grommetlaw02.SumPlays.
-/
import Derived.Test.YtnoigphiakabbaaSumD
import Derived.BigQuiet
import Derived.Deep.QuietTactic
namespace Go.Proofs.Ytnoigphiakabbaa
open Go.RowKit

set_option maxHeartbeats 1000000 in
theorem walk_plays (a : Option Addr) (cap : Nat) (zs : List Int) (hcap : zs.length ≤ cap) (hm : zs.length * 8 ≤ 140737488351232) (w : World) (hI : Ints w.heap.size .u64 w a zs) :
    Calls Try.prog 3 #[.slice a zs.length cap] w fun e w' => e = .returned (.bool true) ∧ Below w.heap.size w w' := by
  by_cases hg : 4096 < zs.length
  · have hgd : decide (4096 < (zs.length : Int)) = true := by simp; omega
    go_enter Try.func3, Try.ntmps3
    go_wp2_with fail
    refine (works_ok _).mono ?_
    rintro e w' ⟨rfl, hb⟩
    go_wp2_with fail
    go_ret
    exact ⟨rfl, hb⟩
  have hgd : decide (4096 < (zs.length : Int)) = false := by simp; omega
  obtain ⟨i0, hi, hz0, hz1, hz2⟩ := info_parts info_u64
  go_enter Try.func3, Try.ntmps3
  go_wp2_with (at_builtin; refine wpList_append_ints _ rfl _ _ 22 rfl w.heap.size 26 i0 (.int .u64 0) 8 Try.underlying22 hi hz0 hz1 hz2 rfl _ 0 [] rfl (World.ownsRow_made _ #[] 0 (Nat.le_refl _) (Nat.zero_le _) (by simp)) a zs.length cap .u64 zs w.heap.size rfl rfl (hI.below ((Below.refl _ w).alloc (Nat.le_refl _) _)) (by unfold maxLen; omega) (by omega) (by simp) ?_; intro v1 w1 hown hgrow; have hb1 : Below w.heap.size w w1 := ((Below.refl _ w).alloc (Nat.le_refl _) _).grown hgrow (by simp) (fun k e => by cases e; exact Nat.le_refl _); clear hgrow; simp only [Nat.zero_add, List.nil_append] at hown; obtain ⟨ao, co, rfl, hlo, hIo⟩ := Ints.of_owns hown; clear hown)
  refine (sum_new _).mono ?_
  rintro e w2 ⟨rfl, hw2⟩
  have hc2 : w2.cell? ⟨w1.heap.size, 0, none⟩ = some (.int .u64 (sumOf [])) := by rw [hw2]; simp [go_sem, sumOf]
  have hf2 : w2.frozen? ⟨w1.heap.size, 0, none⟩ = false := by rw [hw2]; simp [go_sem]
  have hb2 : Below w1.heap.size w1 w2 := by rw [hw2]; exact (Below.refl _ w1).alloc (Nat.le_refl _) _
  have hz2' : w1.heap.size < w2.heap.size := by rw [hw2]; simp
  have hs1 := hb1.size
  clear hw2
  go_wp2_with fail
  go_loopw [5] (fun i wr => ∃ k : Nat, k ≤ zs.length ∧ i = .int .i64 k ∧ wr.cell? ⟨w1.heap.size, 0, none⟩ = some (.int .u64 (sumOf (zs.take k))) ∧ wr.frozen? ⟨w1.heap.size, 0, none⟩ = false ∧ Below w1.heap.size w1 wr ∧ w1.heap.size < wr.heap.size) (fun i _ => zs.length - (intOf i).toNat)
  case atStart => exact ⟨0, Nat.zero_le _, rfl, hc2, hf2, hb2, hz2'⟩
  case round =>
    obtain ⟨k, hk, rfl, hck, hfk, hbk, hzk⟩ := hrel
    clear hc2 hf2 hb2 hz2'
    have hbw := hb1.trans (hbk.mono hs1)
    by_cases hlt : k < zs.length
    · have hIk := hI.below hbw
      have hl : sumOf (zs.take (k + 1)) = stp (sumOf (zs.take k)) zs[k] := by
        rw [List.take_succ_eq_append_getElem hlt, sumOf_snoc]
      have HL := Lib.hid hl
      clear hl
      by_cases hmod : k % 16 = 0
      · have hmb : ((k : Int) % 16 == 0) = true := by rw [beq_iff_eq]; omega
        have HM := Lib.hid hmod
        clear hmod
        go_wp2_with fail
        have htl : (zs.take k).length = k := by simp; omega
        have HT := Lib.hid htl
        clear htl
        go_quiet ((first | (go_at_call 10; exact quiet_left (sum_now _ _ _ hck)) | (go_at_call 11; exact quiet_left (ref_of_len _ _ _ (zs.take k) HT.out (by omega) w.heap.size _ (hIk.take k)))))
        replace hck : (wr.drewN nq).cell? ⟨w1.heap.size, 0, none⟩ = some (.int .u64 (sumOf (zs.take k))) := hck
        replace hfk : (wr.drewN nq).frozen? ⟨w1.heap.size, 0, none⟩ = false := hfk
        replace hbk := below_drewN hbk nq
        replace hzk : w1.heap.size < (wr.drewN nq).heap.size := hzk
        replace hIk : Ints w.heap.size .u64 (wr.drewN nq) a zs := hIk
        generalize wr.drewN nq = wq at *
        rcases hIk with hnil | ⟨b, off, rfl, hbn, hcs⟩
        · rw [hnil] at hlt; simp at hlt
        have hcj := hcs k hlt
        clear hcs
        go_wp2_with fail
        refine (sum_add _ _ _ _ hck hfk).mono ?_
        rintro e w3 ⟨rfl, rfl⟩
        go_wp2_with fail
        go_roundw
        case rel => exact ⟨k + 1, by omega, by go_num, by rw [HL.out]; exact World.cell?_setCell_same' _ _ _ (by rw [hck]; rfl), by rw [World.frozen?_setCell]; exact hfk, hbk.setCell (p := ⟨w1.heap.size, 0, none⟩) (Nat.le_refl _) _, by simpa using hzk⟩
        case measure => simp [intOf]; omega
      · have hmb : ((k : Int) % 16 == 0) = false := by rw [beq_eq_false_iff_ne]; omega
        have HM := Lib.hid hmod
        clear hmod
        go_wp2_with fail
        go_quiet (fail)
        replace hck : (wr.drewN nq).cell? ⟨w1.heap.size, 0, none⟩ = some (.int .u64 (sumOf (zs.take k))) := hck
        replace hfk : (wr.drewN nq).frozen? ⟨w1.heap.size, 0, none⟩ = false := hfk
        replace hbk := below_drewN hbk nq
        replace hzk : w1.heap.size < (wr.drewN nq).heap.size := hzk
        replace hIk : Ints w.heap.size .u64 (wr.drewN nq) a zs := hIk
        generalize wr.drewN nq = wq at *
        rcases hIk with hnil | ⟨b, off, rfl, hbn, hcs⟩
        · rw [hnil] at hlt; simp at hlt
        have hcj := hcs k hlt
        clear hcs
        go_wp2_with fail
        refine (sum_add _ _ _ _ hck hfk).mono ?_
        rintro e w3 ⟨rfl, rfl⟩
        go_wp2_with fail
        go_roundw
        case rel => exact ⟨k + 1, by omega, by go_num, by rw [HL.out]; exact World.cell?_setCell_same' _ _ _ (by rw [hck]; rfl), by rw [World.frozen?_setCell]; exact hfk, hbk.setCell (p := ⟨w1.heap.size, 0, none⟩) (Nat.le_refl _) _, by simpa using hzk⟩
        case measure => simp [intOf]; omega
    · obtain rfl : k = zs.length := by omega
      rw [List.take_length] at hck
      have hsk := hbw.size
      go_wp2_with fail
      refine (sum_of_len _ _ _ zs rfl (by omega) _ ((hIo.below hbk).mono hbk.size)).mono ?_
      rintro e w5 ⟨rfl, hb5⟩
      have hb15 := hbk.trans (hb5.mono hbk.size)
      have hbw5 := hbw.trans (hb5.mono hsk)
      have hc5 := (hb5.cell (p := ⟨w1.heap.size, 0, none⟩) hzk).trans hck
      clear hck hfk hbk hbw
      go_wp2_with fail
      refine (ref_of_len a _ cap zs rfl (by omega) w.heap.size _ (hI.below hbw5)).mono ?_
      rintro e w6 ⟨rfl, rfl⟩
      go_wp2_with fail
      refine (sum_now _ _ _ hc5).mono ?_
      rintro e w6 ⟨rfl, rfl⟩
      go_wp2_with fail
      refine (sum_of_len _ _ _ zs rfl (by omega) _ ((hIo.below hb15).mono hb15.size)).mono ?_
      rintro e w7 ⟨rfl, hb7⟩
      have hb17 := hb15.trans (hb7.mono hb15.size)
      have hbw7 := hbw5.trans (hb7.mono hbw5.size)
      have hIo7 := hIo.below hb17
      have hI7 := hI.below hbw7
      clear hb7 hc5 hb5 hb15 hbw5 hsk hzk hIo hI hb1 hb17 hz0 hz1 hz2 hi
      go_wp2_with fail
      go_loopw [6, 7] (fun s i wr => ∃ k : Nat, k ≤ zs.length ∧ s = .bool true ∧ i = .int .i64 k ∧ Below w.heap.size w wr ∧ Ints w1.heap.size .u64 wr ao zs ∧ Ints w.heap.size .u64 wr a zs) (fun _ i _ => zs.length - (intOf i).toNat)
      case atStart => exact ⟨0, Nat.zero_le _, rfl, rfl, hbw7, hIo7, hI7⟩
      case round =>
        clear hbw7 hIo7 hI7
        obtain ⟨k, hk, rfl, rfl, hbk, hIok, hIk⟩ := hrel
        by_cases hlt : k < zs.length
        · have hne : zs ≠ [] := fun e => by rw [e] at hlt; simp at hlt
          rcases hIk with hnil | ⟨b, off, rfl, hbn, hcs⟩
          · exact absurd hnil hne
          rcases hIok with hnil | ⟨b2, off2, rfl, hbn2, hcs2⟩
          · exact absurd hnil hne
          have hcj := hcs k hlt
          have hcj2 := hcs2 k hlt
          have Hcs := Lib.hid hcs
          have Hcs2 := Lib.hid hcs2
          clear hcs hcs2 hne
          go_wp2_with fail
          go_quiet (fail)
          go_wp2_with fail
          go_roundw
          case rel => exact ⟨k + 1, by omega, rfl, by go_num, below_drewN hbk _, .inr ⟨b2, off2, rfl, hbn2, Hcs2.out⟩, .inr ⟨b, off, rfl, hbn, Hcs.out⟩⟩
          case measure => simp [intOf]; omega
        · obtain rfl : k = zs.length := by omega
          clear hIok hIk
          go_wp2_with fail
          refine (works_ok _).mono ?_
          rintro e w' ⟨rfl, hb⟩
          go_wp2_with fail
          go_ret
          exact ⟨rfl, hbk.trans (hb.mono hbk.size)⟩
end Go.Proofs.Ytnoigphiakabbaa
