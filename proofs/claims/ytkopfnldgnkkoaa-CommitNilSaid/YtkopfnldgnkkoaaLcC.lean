/-
  THE WALKS OF layout.place, SessionAt, part, SlotAt, DescriptorAt, AreaAt, InodeMapAt, BlockMapAt, InodeAt, BlockAt.
-/
import Derived.Test.YtkopfnldgnkkoaaLcB
namespace Go.Proofs.Ytkopfnldgnkkoaa
open Go.RowKit

set_option maxRecDepth 100000 in
set_option maxHeartbeats 2000000 in
/-- Of a geometry that may be. -/
theorem place_yes {w0 w : World} (g : G) (m : Nat) (hm7 : m < 7) (i : Int) (hm : mayP g) (h : At w0 w) :
    Calls Try.prog 49 #[gV g, .int .u8 (kindN m), .int .i64 i] w fun e w' => e = .returned (.int .i64 (placeV g m i)) ∧ At w0 w' := by
  unfold gV
  go_enter Try.func49, Try.ntmps49
  go_wp2_with fail
  refine (rows_any g (h.alloc _).self).mono ?_
  rintro e w2 ⟨rfl, k2⟩
  have b2 := (Box.new w g _).at k2
  have h2 := (h.alloc _).trans k2
  clear k2 h
  go_wp2_with fail
  go_loopw [7, 12] (fun s i wr => ∃ n : Nat, n ≤ m ∧ i = .int .i64 n ∧ s = .int .i64 (atN g n) ∧ At w0 wr ∧ Box wr w.heap.size g) (fun _ i _ => 7 - (intOf i).toNat)
  case atStart => exact ⟨0, by omega, rfl, rfl, h2, b2⟩
  case round =>
    clear h2 b2
    obtain ⟨n, hn, rfl, rfl, hr, br⟩ := hrel
    have hn7 : n < 7 := by omega
    have hix := index_row g hn7
    by_cases hlt : n < m
    · have hs := Lib.hid (atN_succ g hn7)
      have hp := prod_bd hm hn7
      have ha := at_bd hm n
      have hkk := kind_inj hn7 hm7 hlt
      have BR := Lib.hid br
      have HM := Lib.hid hm
      clear hm br
      go_wp2_with fail
      go_roundw
      case rel => exact ⟨n + 1, by omega, by go_num, by rw [hs.out], hr.alloc _, BR.out.alloc _⟩
      case measure => simp [intOf]; omega
    · obtain rfl : n = m := by omega
      have ha := at_bd hm n
      have hmany := many_bd hm hn7
      have hsize := size_bd n
      have Hmb := Lib.hid (mayB_true.2 hm)
      have hkk : (kindN n != kindN n) = false := by simp
      have br1 := br.alloc (.cells #[.int .u8 (kindN n), .int .i64 (sizeN n), .int .i64 (manyN g n)] 81)
      have hc0 := br1.c0
      have hc1 := br1.c1
      have hc2 := br1.c2
      go_wp2_with fail
      refine (may_any g (hr.alloc _).self).mono ?_
      rintro e w3 ⟨rfl, k3⟩
      have h3 := (hr.alloc _).trans k3
      have hd0 : w3.cell? ⟨wr.heap.size, 0, none⟩ = some (.int .u8 (kindN n)) := (k3.b.cell (p := ⟨wr.heap.size, 0, none⟩) (by simp)).trans (by simp)
      have hd1 : w3.cell? ⟨wr.heap.size, 1, none⟩ = some (.int .i64 (sizeN n)) := (k3.b.cell (p := ⟨wr.heap.size, 1, none⟩) (by simp)).trans (by simp)
      have hd2 : w3.cell? ⟨wr.heap.size, 2, none⟩ = some (.int .i64 (manyN g n)) := (k3.b.cell (p := ⟨wr.heap.size, 2, none⟩) (by simp)).trans (by simp)
      rw [Hmb.out]
      clear hc0 hc1 hc2 br1 br k3
      go_wp2_with fail
      refine (within_any _ _ _ _).mono ?_
      rintro e _ ⟨rfl, rfl⟩
      cases hin : inB i 0 (manyN g n - 1)
      · have hv : placeV g n i = -1 := if_neg (by simp [inB] at hin; intro hh; have := hin hh.2.1; omega)
        have HV := Lib.hid hv
        clear hv hin
        go_wp2_with fail
        go_ret
        exact ⟨by rw [HV.out]; rfl, h3⟩
      · have hin' : 0 ≤ i ∧ i ≤ manyN g n - 1 := by simpa [inB] using hin
        have hv : placeV g n i = atN g n + sizeN n * i := if_pos ⟨hm, hin'⟩
        have hq : 0 ≤ sizeN n * i ∧ sizeN n * i ≤ 208 * 512 := ⟨Int.mul_nonneg (by omega) hin'.1, Int.mul_le_mul hsize.2 (by omega) hin'.1 (by omega)⟩
        have HV := Lib.hid hv
        clear hv hin
        go_wp2_with fail
        go_ret
        exact ⟨by rw [HV.out]; rfl, h3⟩

set_option maxRecDepth 100000 in
set_option maxHeartbeats 2000000 in
/-- Of one that may not be. -/
theorem place_no {w0 w : World} (g : G) (m : Nat) (hm7 : m < 7) (i : Int) (hm : ¬ mayP g) (h : At w0 w) :
    Calls Try.prog 49 #[gV g, .int .u8 (kindN m), .int .i64 i] w fun e w' => e = .returned (.int .i64 (placeV g m i)) ∧ At w0 w' := by
  have hv : placeV g m i = -1 := if_neg (fun hh => hm hh.1)
  rw [hv]; clear hv
  have Hmb := Lib.hid (mayB_false.2 hm)
  clear hm
  unfold gV
  go_enter Try.func49, Try.ntmps49
  go_wp2_with fail
  refine (rows_any g (h.alloc _).self).mono ?_
  rintro e w2 ⟨rfl, k2⟩
  have b2 := (Box.new w g _).at k2
  have h2 := (h.alloc _).trans k2
  clear k2 h
  go_wp2_with fail
  go_loopw [7, 12] (fun s i wr => ∃ (n : Nat) (x : Int), n ≤ m ∧ i = .int .i64 n ∧ s = .int .i64 x ∧ At w0 wr ∧ Box wr w.heap.size g) (fun _ i _ => 7 - (intOf i).toNat)
  case atStart => exact ⟨0, 0, by omega, rfl, rfl, h2, b2⟩
  case round =>
    clear h2 b2
    obtain ⟨n, x, hn, rfl, rfl, hr, br⟩ := hrel
    have hn7 : n < 7 := by omega
    have hix := index_row g hn7
    by_cases hlt : n < m
    · have hkk := kind_inj hn7 hm7 hlt
      have BR := Lib.hid br
      clear br
      go_wp2_with fail
      go_roundw
      case rel => exact ⟨n + 1, _, by omega, by go_num, rfl, hr.alloc _, BR.out.alloc _⟩
      case measure => simp [intOf]; omega
    · obtain rfl : n = m := by omega
      have hkk : (kindN n != kindN n) = false := by simp
      have br1 := br.alloc (.cells #[.int .u8 (kindN n), .int .i64 (sizeN n), .int .i64 (manyN g n)] 81)
      have hc0 := br1.c0
      have hc1 := br1.c1
      have hc2 := br1.c2
      go_wp2_with fail
      refine (may_any g (hr.alloc _)).mono ?_
      rintro e w3 ⟨rfl, h3⟩
      rw [Hmb.out]
      clear hc0 hc1 hc2 br1 br
      go_wp2_with fail
      go_ret
      exact ⟨rfl, h3⟩

theorem place_any {w0 w : World} (g : G) (m : Nat) (hm7 : m < 7) (i : Int) (h : At w0 w) :
    Calls Try.prog 49 #[gV g, .int .u8 (kindN m), .int .i64 i] w fun e w' => e = .returned (.int .i64 (placeV g m i)) ∧ At w0 w' := by
  by_cases hm : mayP g
  · exact place_yes g m hm7 i hm h
  · exact place_no g m hm7 i hm h

set_option maxHeartbeats 400000 in
theorem area_at {w0 w : World} (g : G) (i : Int) (h : At w0 w) :
    Calls Try.prog 18 #[gV g, .int .i64 i] w fun e w' => e = .returned (.int .i64 (placeV g 2 i)) ∧ At w0 w' := by
  unfold gV
  go_enter Try.func18, Try.ntmps18
  go_wp2_with fail
  refine (place_any g 2 (by decide) i (h.alloc _)).mono ?_
  rintro e w1 ⟨rfl, h1⟩
  go_wp2_with fail
  go_ret
  exact ⟨rfl, h1⟩
set_option maxHeartbeats 400000 in
theorem inode_map_at {w0 w : World} (g : G) (h : At w0 w) :
    Calls Try.prog 37 #[gV g] w fun e w' => e = .returned (.int .i64 (placeV g 3 0)) ∧ At w0 w' := by
  unfold gV
  go_enter Try.func37, Try.ntmps37
  go_wp2_with fail
  refine (place_any g 3 (by decide) 0 (h.alloc _)).mono ?_
  rintro e w1 ⟨rfl, h1⟩
  go_wp2_with fail
  go_ret
  exact ⟨rfl, h1⟩
set_option maxHeartbeats 400000 in
theorem block_map_at {w0 w : World} (g : G) (h : At w0 w) :
    Calls Try.prog 38 #[gV g] w fun e w' => e = .returned (.int .i64 (placeV g 4 0)) ∧ At w0 w' := by
  unfold gV
  go_enter Try.func38, Try.ntmps38
  go_wp2_with fail
  refine (place_any g 4 (by decide) 0 (h.alloc _)).mono ?_
  rintro e w1 ⟨rfl, h1⟩
  go_wp2_with fail
  go_ret
  exact ⟨rfl, h1⟩
set_option maxHeartbeats 400000 in
theorem inode_at {w0 w : World} (g : G) (i : Int) (h : At w0 w) :
    Calls Try.prog 39 #[gV g, .int .i64 i] w fun e w' => e = .returned (.int .i64 (placeV g 5 i)) ∧ At w0 w' := by
  unfold gV
  go_enter Try.func39, Try.ntmps39
  go_wp2_with fail
  refine (place_any g 5 (by decide) i (h.alloc _)).mono ?_
  rintro e w1 ⟨rfl, h1⟩
  go_wp2_with fail
  go_ret
  exact ⟨rfl, h1⟩
set_option maxHeartbeats 400000 in
theorem block_at {w0 w : World} (g : G) (i : Int) (h : At w0 w) :
    Calls Try.prog 19 #[gV g, .int .i64 i] w fun e w' => e = .returned (.int .i64 (placeV g 6 i)) ∧ At w0 w' := by
  unfold gV
  go_enter Try.func19, Try.ntmps19
  go_wp2_with fail
  refine (place_any g 6 (by decide) i (h.alloc _)).mono ?_
  rintro e w1 ⟨rfl, h1⟩
  go_wp2_with fail
  go_ret
  exact ⟨rfl, h1⟩

end Go.Proofs.Ytkopfnldgnkkoaa
