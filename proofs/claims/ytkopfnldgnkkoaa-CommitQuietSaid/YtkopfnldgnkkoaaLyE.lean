/-
  THE WALKS OF layout.inSession, Where.
-/
import Derived.Test.YtkopfnldgnkkoaaLyA
namespace Go.Proofs.Ytkopfnldgnkkoaa
open Go.RowKit

/-- Four numbers, the first of the kind k. -/
def four (k : IntKind) (x : Int × Int × Int × Int) : Value := .tuple #[.int k x.1, .int .i64 x.2.1, .int .i64 x.2.2.1, .int .i64 x.2.2.2]

set_option maxHeartbeats 400000 in
theorem in_session (i r : Int) (h0 : 0 ≤ r) (h1 : r < 64) (w : World) :
    Calls Try.prog 53 #[.int .i64 i, .int .i64 r] w fun e w' => e = .returned (four .u8 (inSessV i r)) ∧ w = w' := by
  by_cases e1 : r < 8
  · have HV := Lib.hid (show inSessV i r = (2, i, 0, r) from if_pos e1)
    go_enter Try.func53, Try.ntmps53
    go_wp2_with fail
    refine bodyPost_ret (results_tmp4 rfl _ _ _) rfl ?_
    exact ⟨by rw [HV.out]; rfl, rfl⟩
  · by_cases e2 : r < 56
    · have HV := Lib.hid (show inSessV i r = (3, i, (r - 8) / 12, (r - 8) % 12) from (if_neg e1).trans (if_pos e2))
      go_enter Try.func53, Try.ntmps53
      go_wp2_with fail
      refine bodyPost_ret (results_tmp4 rfl _ _ _) rfl ?_
      exact ⟨by rw [HV.out]; rfl, rfl⟩
    · have HV := Lib.hid (show inSessV i r = (4, i, (r - 56) / 2, (r - 56) % 2) from (if_neg e1).trans (if_neg e2))
      go_enter Try.func53, Try.ntmps53
      go_wp2_with fail
      refine bodyPost_ret (results_tmp4 rfl _ _ _) rfl ?_
      exact ⟨by rw [HV.out, show r - 56 = r - 8 - 48 by omega]; rfl, rfl⟩

set_option maxRecDepth 100000 in
set_option maxHeartbeats 2000000 in
theorem where_yes {w0 w : World} (g : G) (x : Int) (hm : mayP g) (hx : 0 ≤ x) (hx2 : x ≤ 9223372036854775807) (h : At w0 w) :
    Calls Try.prog 22 #[gV g, .int .i64 x] w fun e w' => e = .returned (four .u8 (whereV g x)) ∧ At w0 w' := by
  have Hmb := Lib.hid (mayB_true.2 hm)
  unfold gV
  go_enter Try.func22, Try.ntmps22
  go_wp2_with fail
  refine (may_any g (h.alloc _).self).mono ?_
  rintro e w1 ⟨rfl, k1⟩
  have b1 := (Box.new w g _).at k1
  have h1 := (h.alloc _).trans k1
  clear k1 h
  rw [Hmb.out]
  have hc0 := b1.c0
  have hc1 := b1.c1
  have hc2 := b1.c2
  go_wp2_with fail
  refine (rows_any g h1).mono ?_
  rintro e w2 ⟨rfl, h2⟩
  clear hc0 hc1 hc2 b1 h1
  go_wp2_with fail
  go_loopw [1, 20] (fun s i wr => ∃ n : Nat, n ≤ 7 ∧ i = .int .i64 n ∧ s = .int .i64 (x - atN g n) ∧ atN g n ≤ x ∧ At w0 wr) (fun _ i _ => 7 - (intOf i).toNat)
  case atStart => exact ⟨0, by omega, rfl, by simp [atN], by simp [atN]; exact hx, h2⟩
  case round =>
    clear h2
    obtain ⟨n, hn, rfl, rfl, hat, hr⟩ := hrel
    by_cases hlt : n < 7
    · have hix := index_row g hlt
      have hs := atN_succ g hlt
      have HS := Lib.hid hs
      have hp := prod_bd hm hlt
      have ha := at_bd hm n
      have ha2 := at_bd hm (n + 1)
      have hsz := size_bd n
      by_cases hge : atN g (n + 1) ≤ x
      · have hd : decide (sizeN n * manyN g n ≤ x - atN g n) = true := by simp; omega
        clear hm hs
        go_wp2_with fail
        go_roundw
        case rel => exact ⟨n + 1, by omega, by go_num, by rw [HS.out]; simp only [Int.sub_sub], hge, hr.alloc _⟩
        case measure => simp [intOf]; omega
      · have hd : decide (sizeN n * manyN g n ≤ x - atN g n) = false := by simp; omega
        have HW := Lib.hid (where_row hm hlt hx hat (by omega))
        have hx3 : x - atN g n ≤ 7000 := by omega
        have hx4 : 0 ≤ x - atN g n := by omega
        have hsn : (sizeN n == 0) = false := by rw [beq_eq_false_iff_ne]; omega
        by_cases hn1 : n = 1
        · have hks : (kindN n == 2) = true := by rw [kind_sess hlt]; simp [hn1]
          have HN := Lib.hid hn1
          clear hm hs hn1
          go_wp2_with fail
          go_quiet (fail)
          go_wp2_with fail
          have hsz1 : sizeN n = 64 := by rw [HN.out]; rfl
          refine (in_session _ _ (Int.emod_nonneg _ (by omega)) (by rw [← hsz1]; exact Int.emod_lt_of_pos _ (by omega)) _).mono ?_
          rintro e _ ⟨rfl, rfl⟩
          have HZ := Lib.hid hsz1
          clear hsz1
          unfold four
          go_wp2_with fail
          refine bodyPost_ret (results_tmp4 rfl _ _ _) rfl ?_
          refine ⟨?_, (hr.alloc _).drewN _⟩
          rw [HW.out, if_pos HN.out, ← HZ.out]
          rfl
        · have hks : (kindN n == 2) = false := by rw [kind_sess hlt]; simp [hn1]
          have HN := Lib.hid hn1
          clear hm hs hn1
          go_wp2_with fail
          go_quiet (fail)
          go_wp2_with fail
          refine bodyPost_ret (results_tmp4 rfl _ _ _) rfl ?_
          refine ⟨?_, (hr.alloc _).drewN _⟩
          rw [HW.out, if_neg HN.out]
          rfl
    · obtain rfl : n = 7 := by omega
      have HW := Lib.hid (where_none (g := g) (x := x) (.inr (.inr hat)))
      go_wp2_with fail
      refine bodyPost_ret (results_tmp4 rfl _ _ _) rfl ?_
      exact ⟨by rw [HW.out]; rfl, hr⟩

set_option maxRecDepth 100000 in
set_option maxHeartbeats 2000000 in
theorem where_no {w0 w : World} (g : G) (x : Int) (hm : ¬ mayP g ∨ x < 0) (h : At w0 w) :
    Calls Try.prog 22 #[gV g, .int .i64 x] w fun e w' => e = .returned (four .u8 (whereV g x)) ∧ At w0 w' := by
  have HW := Lib.hid (where_none (g := g) (x := x) (by rcases hm with h | h; exact .inl h; exact .inr (.inl h)))
  by_cases hg : mayP g
  · have hx : x < 0 := by rcases hm with h | h; exact absurd hg h; exact h
    have hd : decide (x < 0) = true := by simpa using hx
    have Hmb := Lib.hid (mayB_true.2 hg)
    clear hm hg
    unfold gV
    go_enter Try.func22, Try.ntmps22
    go_wp2_with fail
    refine (may_any g (h.alloc _)).mono ?_
    rintro e w1 ⟨rfl, h1⟩
    rw [Hmb.out]
    go_wp2_with fail
    refine bodyPost_ret (results_tmp4 rfl _ _ _) rfl ?_
    exact ⟨by rw [HW.out]; rfl, h1⟩
  · have Hmb := Lib.hid (mayB_false.2 hg)
    clear hm hg
    unfold gV
    go_enter Try.func22, Try.ntmps22
    go_wp2_with fail
    refine (may_any g (h.alloc _)).mono ?_
    rintro e w1 ⟨rfl, h1⟩
    rw [Hmb.out]
    go_wp2_with fail
    refine bodyPost_ret (results_tmp4 rfl _ _ _) rfl ?_
    exact ⟨by rw [HW.out]; rfl, h1⟩

theorem where_any {w0 w : World} (g : G) (x : Int) (hx2 : x ≤ 9223372036854775807) (h : At w0 w) :
    Calls Try.prog 22 #[gV g, .int .i64 x] w fun e w' => e = .returned (four .u8 (whereV g x)) ∧ At w0 w' := by
  by_cases hg : mayP g
  · by_cases hx : 0 ≤ x
    · exact where_yes g x hg hx hx2 h
    · exact where_no g x (.inr (by omega)) h
  · exact where_no g x (.inl hg) h

end Go.Proofs.Ytkopfnldgnkkoaa
