/-
  THE WALKS OF grommetlaw04.small, LayoutNone, LayoutRows.
-/
import Derived.Test.YteaokdkfpafmaaaDoorLayJ
namespace Go.Proofs.YteaokdkfpafmaaaDoor
open Go.RowKit

/-- A geometry by some numbers. -/
def smallG (a b c : Nat) : G := ⟨1 + ((a % 4 : Nat) : Int), 2 + ((b % 63 : Nat) : Int), 2 + ((c % 511 : Nat) : Int)⟩
theorem small_may (a b c : Nat) : mayP (smallG a b c) := by
  unfold mayP smallG; dsimp only
  have := Nat.mod_lt a (show 4 > 0 by decide)
  have := Nat.mod_lt b (show 63 > 0 by decide)
  have := Nat.mod_lt c (show 511 > 0 by decide)
  omega

set_option maxRecDepth 100000 in
set_option maxHeartbeats 1000000 in
theorem small_any {w0 w : World} (a b c : Nat) (ha : a ≤ 65535) (hb : b ≤ 65535) (hc : c ≤ 65535) (h : At w0 w) :
    Calls Tryd.prog 31 #[.int .u16 (a : Int), .int .u16 (b : Int), .int .u16 (c : Int)] w fun e w' => e = .returned (gV (smallG a b c)) ∧ At w0 w' := by
  go_enter Tryd.func31, Tryd.ntmps31
  go_wp2
  refine bodyPost_ret (results_cell_row rfl _ _ _ 23 #[.int .i64 (smallG a b c).w, .int .i64 (smallG a b c).i, .int .i64 (smallG a b c).b] (0, 0) _ rfl (heap_alloc_new _ _) Tryd.underlying23 rfl (by kernel_rfl)) rfl ?_
  exact ⟨rfl, h.alloc _⟩

theorem four_zero : four .u8 (0, 0, 0, 0) = .tuple #[.int .u8 0, .int .i64 0, .int .i64 0, .int .i64 0] := rfl

set_option maxRecDepth 100000 in
set_option maxHeartbeats 2000000 in
theorem walk_none (g : G) (i x : Int) (hx : x ≤ 9223372036854775807) (w : World) (hl : Least w) :
    Calls Tryd.prog 8 #[gV g, .int .i64 i, .int .i64 x] w fun e w' => e = .returned (.bool true) ∧ Below w.heap.size w w' := by
  have h := At.refl hl
  by_cases hm : mayP g
  · have Hmb := Lib.hid (mayB_true.2 hm)
    have HW := Lib.hid (show wordsV g = atN g 7 from if_pos hm)
    have h7 : 0 < atN g 7 := by obtain ⟨g1, g2, g3, g4, g5, g6⟩ := hm; simp only [atN]; omega
    obtain ⟨g1, g2, g3, g4, g5, g6⟩ := hm
    unfold gV
    go_enter Tryd.func8, Tryd.ntmps8
    go_wp2_with fail
    refine (may_any g (h.alloc _).self).mono ?_
    rintro e w1 ⟨rfl, k1⟩
    have b1 := (Box.new w g _).at k1
    have h1 := (h.alloc _).trans k1
    rw [Hmb.out]
    clear k1 h
    have hc0 := b1.c0
    have hc1 := b1.c1
    have hc2 := b1.c2
    go_wp2_with fail
    refine (words_any g h1).mono ?_
    rintro e w2 ⟨rfl, h2⟩
    rw [HW.out]
    clear hc0 hc1 hc2 b1 h1
    go_wp2_with fail
    refine (works_any h2).mono ?_
    rintro e w3 ⟨rfl, h3⟩
    go_wp2_with fail
    go_ret
    exact ⟨rfl, h3.b⟩
  · have Hmb := Lib.hid (mayB_false.2 hm)
    have HV := Lib.hid (where_none (g := g) (x := x) (.inl hm))
    have HW := Lib.hid (show wordsV g = 0 from if_neg hm)
    have HP := Lib.hid (show ∀ n j, placeV g n j = -1 from fun n j => if_neg (fun hh => hm hh.1))
    have HM := Lib.hid hm
    clear hm
    unfold gV
    go_enter Tryd.func8, Tryd.ntmps8
    go_wp2_with fail
    refine (may_any g (h.alloc _).self).mono ?_
    rintro e w1 ⟨rfl, k1⟩
    have b1 := (Box.new w g _).at k1
    have h1 := (h.alloc _).trans k1
    rw [Hmb.out]
    clear k1 h
    have hc0 := b1.c0
    have hc1 := b1.c1
    have hc2 := b1.c2
    go_wp2_with fail
    refine (where_any g x hx h1.self).mono ?_
    rintro e w2 ⟨rfl, k⟩
    rw [HV.out, four_zero]
    have b2 := b1.at k
    have h2 := h1.trans k
    clear k b1 h1 hc0 hc1 hc2
    have hc0 := b2.c0
    have hc1 := b2.c1
    have hc2 := b2.c2
    go_wp2_with fail
    refine (words_any g h2.self).mono ?_
    rintro e w3 ⟨rfl, k⟩
    rw [HW.out]
    have b3 := b2.at k
    have h3 := h2.trans k
    clear k b2 h2 hc0 hc1 hc2
    have hc0 := b3.c0
    have hc1 := b3.c1
    have hc2 := b3.c2
    go_wp2_with fail
    refine (format_no g HM.out h3.self).mono ?_
    rintro e w4 ⟨rfl, k⟩
    have b4 := b3.at k
    have h4 := h3.trans k
    clear k b3 h3 hc0 hc1 hc2
    have hc0 := b4.c0
    have hc1 := b4.c1
    have hc2 := b4.c2
    go_wp2_with fail
    refine (area_at g i h4.self).mono ?_
    rintro e w5 ⟨rfl, k⟩
    rw [HP.out]
    have b5 := b4.at k
    have h5 := h4.trans k
    clear k b4 h4 hc0 hc1 hc2
    have hc0 := b5.c0
    have hc1 := b5.c1
    have hc2 := b5.c2
    go_wp2_with fail
    refine (inode_map_at g h5.self).mono ?_
    rintro e w6 ⟨rfl, k⟩
    rw [HP.out]
    have b6 := b5.at k
    have h6 := h5.trans k
    clear k b5 h5 hc0 hc1 hc2
    have hc0 := b6.c0
    have hc1 := b6.c1
    have hc2 := b6.c2
    go_wp2_with fail
    refine (block_map_at g h6.self).mono ?_
    rintro e w7 ⟨rfl, k⟩
    rw [HP.out]
    have b7 := b6.at k
    have h7 := h6.trans k
    clear k b6 h6 hc0 hc1 hc2
    have hc0 := b7.c0
    have hc1 := b7.c1
    have hc2 := b7.c2
    go_wp2_with fail
    refine (inode_at g i h7.self).mono ?_
    rintro e w8 ⟨rfl, k⟩
    rw [HP.out]
    have b8 := b7.at k
    have h8 := h7.trans k
    clear k b7 h7 hc0 hc1 hc2
    have hc0 := b8.c0
    have hc1 := b8.c1
    have hc2 := b8.c2
    go_wp2_with fail
    refine (block_at g i h8.self).mono ?_
    rintro e w9 ⟨rfl, k⟩
    rw [HP.out]
    have b9 := b8.at k
    have h9 := h8.trans k
    clear k b8 h8 hc0 hc1 hc2
    clear b9
    go_wp2_with fail
    refine (works_any h9).mono ?_
    rintro e w10 ⟨rfl, h10⟩
    go_wp2_with fail
    go_ret
    exact ⟨rfl, h10.b⟩

set_option maxRecDepth 100000 in
set_option maxHeartbeats 4000000 in
theorem walk_rows (a b c : Nat) (ha : a ≤ 65535) (hb : b ≤ 65535) (hc : c ≤ 65535) (w : World) (hl : Least w) :
    Calls Tryd.prog 4 #[.int .u16 (a : Int), .int .u16 (b : Int), .int .u16 (c : Int)] w fun e w' => e = .returned (.bool true) ∧ Below w.heap.size w w' := by
  have h := At.refl hl
  have hm := small_may a b c
  have HS := Lib.hid (small_any a b c ha hb hc (At.refl hl))
  obtain ⟨g, hg⟩ : ∃ g, smallG a b c = g := ⟨_, rfl⟩
  rw [hg] at hm HS
  clear hg
  have HM := Lib.hid hm
  obtain ⟨g1, g2, g3, g4, g5, g6⟩ := hm
  go_enter Tryd.func4, Tryd.ntmps4
  go_wp2_with fail
  refine HS.out.mono ?_
  rintro e w1 ⟨rfl, h1⟩
  clear HS h
  unfold gV
  have bx := Box.new w1 g 23
  have h2 := h1.alloc (.cells #[.int .i64 g.w, .int .i64 g.i, .int .i64 g.b] 23)
  go_upto_region 3 with (fail)
  generalize (w1.alloc (.cells #[.int .i64 g.w, .int .i64 g.i, .int .i64 g.b] 23)) = w2 at *
  obtain ⟨B, hB⟩ : ∃ B, w1.heap.size = B := ⟨_, rfl⟩
  rw [hB] at bx
  simp only [hB]
  clear hB h1
  go_wp2_with fail
  go_loopw [8, 9] (fun s j wr => ∃ i : Nat, i ≤ 4 ∧ j = .int .i64 i ∧ s = .int .i64 (8 + 64 * (i : Int)) ∧ At w wr ∧ Box wr B g) (fun _ j _ => 4 - (intOf j).toNat)
  case atStart => exact ⟨0, by omega, rfl, by go_num, h2, bx⟩
  case round =>
    clear h2 bx
    obtain ⟨i, hi, rfl, rfl, hr, br⟩ := hrel
    by_cases hlt : i < 4
    · have HS := Lib.hid (show sessV (i : Int) = 8 + 64 * (i : Int) from if_pos (by omega))
      go_wp2_with fail
      refine (session_at _ hr.self).mono ?_
      rintro e w4 ⟨rfl, k4⟩
      rw [HS.out]
      have hp4 := And.intro (hr.trans k4) (br.at k4)
      clear k4 hr br
      go_wp2_with fail
      go_loopw [8, 10] (fun s j wr => ∃ m : Nat, m ≤ 4 ∧ j = .int .i64 m ∧ s = .int .i64 (16 + 64 * (i : Int) + 12 * (m : Int)) ∧ At w wr ∧ Box wr B g) (fun _ j _ => 4 - (intOf j).toNat)
      case atStart => exact ⟨0, by omega, rfl, congrArg (Value.int .i64) (by omega), hp4.1, hp4.2⟩
      case round =>
        clear hp4
        obtain ⟨m, hm4, rfl, rfl, hr2, br2⟩ := hrel
        have hp := And.intro hr2 br2
        clear hr2 br2
        by_cases hlm : m < 4
        · have HP := Lib.hid (show partV (i : Int) (m : Int) 4 8 12 = 16 + 64 * (i : Int) + 12 * (m : Int) from (part_in (by omega) (by omega) (by omega) (by omega)).trans (by omega))
          go_wp2_with fail
          refine (slot_at _ _ hp.1.self).mono ?_
          rintro e w5 ⟨rfl, k⟩
          rw [HP.out]
          go_wp2_with fail
          go_roundw
          case rel => exact ⟨m + 1, by omega, by go_num, by go_num, hp.1.trans k, hp.2.at k⟩
          case measure => simp [intOf]; omega
        · have hm44 : 4 ≤ m := by omega
          go_wp2_with fail
          go_loopw [8, 11] (fun s j wr => ∃ m : Nat, m ≤ 4 ∧ j = .int .i64 m ∧ s = .int .i64 (64 + 64 * (i : Int) + 2 * (m : Int)) ∧ At w wr ∧ Box wr B g) (fun _ j _ => 4 - (intOf j).toNat)
          case atStart => exact ⟨0, by omega, rfl, congrArg (Value.int .i64) (by omega), hp.1, hp.2⟩
          case round =>
            clear hp
            obtain ⟨m, hm4, rfl, rfl, hr2, br2⟩ := hrel
            have hp := And.intro hr2 br2
            clear hr2 br2
            by_cases hlm : m < 4
            · have HP := Lib.hid (show partV (i : Int) (m : Int) 4 56 2 = 64 + 64 * (i : Int) + 2 * (m : Int) from (part_in (by omega) (by omega) (by omega) (by omega)).trans (by omega))
              go_wp2_with fail
              refine (descriptor_at _ _ hp.1.self).mono ?_
              rintro e w5 ⟨rfl, k⟩
              rw [HP.out]
              go_wp2_with fail
              go_roundw
              case rel => exact ⟨m + 1, by omega, by go_num, by go_num, hp.1.trans k, hp.2.at k⟩
              case measure => simp [intOf]; omega
            · have hm44 : 4 ≤ m := by omega
              go_wp2_with fail
              go_roundw
              case rel => exact ⟨i + 1, by omega, by go_num, congrArg (Value.int .i64) (by omega), hp.1, hp.2⟩
              case measure => simp [intOf]; omega
    · have hi44 : 4 ≤ i := by omega
      have hp := And.intro hr br
      clear hr br
      have hc0 := hp.2.c0
      have hc1 := hp.2.c1
      have hc2 := hp.2.c2
      go_wp2_with fail
      clear hc0 hc1 hc2
      go_loopw [8, 12] (fun s j wr => ∃ m : Nat, (m : Int) ≤ g.w ∧ j = .int .i64 m ∧ s = .int .i64 (264 + 208 * (m : Int)) ∧ At w wr ∧ Box wr B g) (fun _ j _ => 600 - (intOf j).toNat)
      case atStart => exact ⟨0, by omega, rfl, congrArg (Value.int .i64) (by omega), hp.1, hp.2⟩
      case round =>
        clear hp
        obtain ⟨m2, hm4, rfl, rfl, hr2, br2⟩ := hrel
        have hq := And.intro hr2 br2
        clear hr2 br2
        have hc0 := hq.2.c0
        have hc1 := hq.2.c1
        have hc2 := hq.2.c2
        by_cases hlm : (m2 : Int) < g.w
        · have HP := Lib.hid (show placeV g 2 (m2 : Int) = 264 + 208 * (m2 : Int) from (if_pos ⟨HM.out, by omega, by simp only [manyN]; omega⟩ : placeV g 2 (m2 : Int) = atN g 2 + sizeN 2 * (m2 : Int)).trans (by simp only [atN, sizeN]))
          go_wp2_with fail
          refine (area_at _ _ hq.1.self).mono ?_
          rintro e w5 ⟨rfl, k⟩
          rw [HP.out]
          clear hc0 hc1 hc2
          go_wp2_with fail
          go_roundw
          case rel => exact ⟨m2 + 1, by omega, by go_num, congrArg (Value.int .i64) (by omega), hq.1.trans k, hq.2.at k⟩
          case measure => simp [intOf]; omega
        · have hm44 : g.w ≤ (m2 : Int) := by omega
          have HP3 := Lib.hid (show placeV g 3 0 = 264 + 208 * (m2 : Int) from (if_pos ⟨HM.out, by decide, by simp only [manyN]; decide⟩ : placeV g 3 0 = atN g 3 + sizeN 3 * 0).trans (by simp only [atN, sizeN]; omega))
          have HP4 := Lib.hid (show placeV g 4 0 = 264 + 208 * (m2 : Int) + 8 from (if_pos ⟨HM.out, by decide, by simp only [manyN]; decide⟩ : placeV g 4 0 = atN g 4 + sizeN 4 * 0).trans (by simp only [atN, sizeN]; omega))
          go_wp2_with fail
          refine (inode_map_at g hq.1.self).mono ?_
          rintro e w6 ⟨rfl, k⟩
          rw [HP3.out]
          have hq1 := And.intro (hq.1.trans k) (hq.2.at k)
          clear hc0 hc1 hc2 hq k
          have hc0 := hq1.2.c0
          have hc1 := hq1.2.c1
          have hc2 := hq1.2.c2
          go_wp2_with fail
          refine (block_map_at g hq1.1.self).mono ?_
          rintro e w7 ⟨rfl, k⟩
          rw [HP4.out]
          have hq2 := And.intro (hq1.1.trans k) (hq1.2.at k)
          clear hc0 hc1 hc2 hq1 k
          have hc0 := hq2.2.c0
          have hc1 := hq2.2.c1
          have hc2 := hq2.2.c2
          go_wp2_with fail
          clear hc0 hc1 hc2
          go_loopw [8, 13] (fun s j wr => ∃ m : Nat, (m : Int) ≤ g.i ∧ j = .int .i64 m ∧ s = .int .i64 (280 + 208 * g.w + 16 * (m : Int)) ∧ At w wr ∧ Box wr B g) (fun _ j _ => 600 - (intOf j).toNat)
          case atStart => exact ⟨0, by omega, rfl, congrArg (Value.int .i64) (by omega), hq2.1, hq2.2⟩
          case round =>
            clear hq2
            obtain ⟨m5, hm4, rfl, rfl, hr2, br2⟩ := hrel
            have hq := And.intro hr2 br2
            clear hr2 br2
            have hc0 := hq.2.c0
            have hc1 := hq.2.c1
            have hc2 := hq.2.c2
            by_cases hlm : (m5 : Int) < g.i
            · have HP := Lib.hid (show placeV g 5 (m5 : Int) = 280 + 208 * g.w + 16 * (m5 : Int) from (if_pos ⟨HM.out, by omega, by simp only [manyN]; omega⟩ : placeV g 5 (m5 : Int) = atN g 5 + sizeN 5 * (m5 : Int)).trans (by simp only [atN, sizeN]))
              go_wp2_with fail
              refine (inode_at _ _ hq.1.self).mono ?_
              rintro e w5 ⟨rfl, k⟩
              rw [HP.out]
              clear hc0 hc1 hc2
              go_wp2_with fail
              go_roundw
              case rel => exact ⟨m5 + 1, by omega, by go_num, congrArg (Value.int .i64) (by omega), hq.1.trans k, hq.2.at k⟩
              case measure => simp [intOf]; omega
            · have hm44 : g.i ≤ (m5 : Int) := by omega
              clear hc0 hc1 hc2
              have hc0 := hq.2.c0
              have hc1 := hq.2.c1
              have hc2 := hq.2.c2
              go_wp2_with fail
              clear hc0 hc1 hc2
              go_loopw [8, 14] (fun s j wr => ∃ m : Nat, (m : Int) ≤ g.b ∧ j = .int .i64 m ∧ s = .int .i64 (280 + 208 * g.w + 16 * g.i + 8 * (m : Int)) ∧ At w wr ∧ Box wr B g) (fun _ j _ => 600 - (intOf j).toNat)
              case atStart => exact ⟨0, by omega, rfl, congrArg (Value.int .i64) (by omega), hq.1, hq.2⟩
              case round =>
                clear hq
                obtain ⟨m6, hm4, rfl, rfl, hr2, br2⟩ := hrel
                have hq := And.intro hr2 br2
                clear hr2 br2
                have hc0 := hq.2.c0
                have hc1 := hq.2.c1
                have hc2 := hq.2.c2
                by_cases hlm : (m6 : Int) < g.b
                · have HP := Lib.hid (show placeV g 6 (m6 : Int) = 280 + 208 * g.w + 16 * g.i + 8 * (m6 : Int) from (if_pos ⟨HM.out, by omega, by simp only [manyN]; omega⟩ : placeV g 6 (m6 : Int) = atN g 6 + sizeN 6 * (m6 : Int)).trans (by simp only [atN, sizeN]))
                  go_wp2_with fail
                  refine (block_at _ _ hq.1.self).mono ?_
                  rintro e w5 ⟨rfl, k⟩
                  rw [HP.out]
                  clear hc0 hc1 hc2
                  go_wp2_with fail
                  go_roundw
                  case rel => exact ⟨m6 + 1, by omega, by go_num, congrArg (Value.int .i64) (by omega), hq.1.trans k, hq.2.at k⟩
                  case measure => simp [intOf]; omega
                · have hm44 : g.b ≤ (m6 : Int) := by omega
                  have HW := Lib.hid (show wordsV g = 280 + 208 * g.w + 16 * g.i + 8 * (m6 : Int) from (if_pos HM.out : wordsV g = atN g 7).trans (by simp only [atN]; omega))
                  go_wp2_with fail
                  refine (words_any g hq.1).mono ?_
                  rintro e w6 ⟨rfl, h6⟩
                  rw [HW.out]
                  clear hc0 hc1 hc2 hq
                  go_wp2_with fail
                  refine (works_any h6).mono ?_
                  rintro e w7 ⟨rfl, h7⟩
                  go_wp2_with fail
                  go_ret
                  exact ⟨rfl, h7.b⟩

end Go.Proofs.YteaokdkfpafmaaaDoor
