/-
  THE WALK OF layout.Words (nothing laid).
-/
import Derived.Test.YtkopfnldgnkkoaaLyA
namespace Go.Proofs.Ytkopfnldgnkkoaa
open Go.RowKit

set_option maxRecDepth 100000 in
set_option maxHeartbeats 1000000 in
theorem lwords_any {w0 w : World} (g : G) (h : At w0 w) :
    Calls Try.prog 12 #[gV g] w fun e w' => e = .returned (.int .i64 (wordsV g)) ∧ At w0 w' := by
  by_cases hm : mayP g
  · have hv : wordsV g = atN g 7 := if_pos hm
    rw [hv]; clear hv
    have hmb : mayB g = true := mayB_true.2 hm
    have Hmb := Lib.hid hmb
    clear hmb
    unfold gV
    go_enter Try.func12, Try.ntmps12
    go_wp2_with fail
    refine (may_any g (h.alloc _).self).mono ?_
    rintro e w1 ⟨rfl, k1⟩
    have b1 := (Box.new w g _).at k1
    have h1 := (h.alloc _).trans k1
    clear k1
    rw [Hmb.out]
    clear Hmb
    have hc0 := b1.c0
    have hc1 := b1.c1
    have hc2 := b1.c2
    go_wp2_with fail
    refine (rows_any g h1).mono ?_
    rintro e w2 ⟨rfl, h2⟩
    clear hc0 hc1 hc2 b1 h1 h
    go_wp2_with fail
    go_loopw [2, 10] (fun s i wr => ∃ n : Nat, n ≤ 7 ∧ i = .int .i64 n ∧ s = .int .i64 (atN g n) ∧ At w0 wr) (fun _ i _ => 7 - (intOf i).toNat)
    case atStart => exact ⟨0, by omega, rfl, rfl, h2⟩
    case round =>
      clear h2
      obtain ⟨n, hn, rfl, rfl, hr⟩ := hrel
      by_cases hlt : n < 7
      · have hix := index_row g hlt
        have hs := Lib.hid (atN_succ g hlt)
        have hp := prod_bd hm hlt
        have ha := at_bd hm n
        clear hm
        go_wp2_with fail
        go_roundw
        case rel => exact ⟨n + 1, by omega, by go_num, by rw [hs.out], hr.alloc _⟩
        case measure => simp [intOf]; omega
      · obtain rfl : n = 7 := by omega
        go_wp2_with fail
        go_ret
        exact ⟨rfl, hr⟩
  · have hv : wordsV g = 0 := if_neg hm
    rw [hv]; clear hv
    have Hmb := Lib.hid (mayB_false.2 hm)
    unfold gV
    go_enter Try.func12, Try.ntmps12
    go_wp2_with fail
    refine (may_any g (h.alloc _)).mono ?_
    rintro e w1 ⟨rfl, h1⟩
    rw [Hmb.out]
    go_wp2_with fail
    go_ret
    exact ⟨rfl, h1⟩

end Go.Proofs.Ytkopfnldgnkkoaa
