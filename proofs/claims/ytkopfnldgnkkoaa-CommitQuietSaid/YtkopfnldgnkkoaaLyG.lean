/-
  THE WALK OF grommetref04.Where: the rest of the device; and any word.
-/
import Derived.Test.YtkopfnldgnkkoaaLyF
namespace Go.Proofs.Ytkopfnldgnkkoaa
open Go.RowKit

set_option maxRecDepth 100000 in
set_option maxHeartbeats 4000000 in
theorem rwhere_super {w0 w : World} (g : G) (x : Int) (hm : mayP g) (hx0 : 0 ≤ x) (hx1 : x < 8) (h : At w0 w) :
    Calls Try.prog 100 #[gV g, .int .i64 x] w fun e w' => e = .returned (four .i64 (whereV g x)) ∧ At w0 w' := by
  have Hmb := Lib.hid (mayB_true.2 hm)
  have HWd := Lib.hid (show wordsV g = atN g 7 from if_pos hm)
  have hb7 := (at_bd hm 7).2
  have HV := Lib.hid (where_row hm (n := 0) (by decide) hx0 (by simpa [atN] using hx0) (by simpa [atN] using hx1))
  have hx7 : x < atN g 7 := by obtain ⟨g1, g2, g3, g4, g5, g6⟩ := hm; simp only [atN]; omega
  clear hm
  unfold gV
  go_enter Try.func100, Try.ntmps100
  go_wp2_with fail
  refine (rmay_any g (h.alloc _).self).mono ?_
  rintro e w1 ⟨rfl, k1⟩
  have b1 := (Box.new w g _).at k1
  have h1 := (h.alloc _).trans k1
  rw [Hmb.out]
  clear k1 h
  have hc0 := b1.c0
  have hc1 := b1.c1
  have hc2 := b1.c2
  go_wp2_with fail
  refine (rwords_any g h1.self).mono ?_
  rintro e w2 ⟨rfl, k2⟩
  have b2 := b1.at k2
  have h2 := h1.trans k2
  rw [HWd.out]
  clear k2 hc0 hc1 hc2 b1 h1
  go_wp2_with fail
  refine bodyPost_ret (results_tmp4 rfl _ _ _) rfl ?_
  exact ⟨four_eq (by rw [HV.out]; simp only [atN, kindN, sizeN]; rw [if_neg (by decide)]; congr 3 <;> omega) _ rfl, h2⟩

theorem row2 {g : G} (hm : mayP g) {x : Int} {m : Nat} (hmw : (m : Int) < g.w) (h1 : 264 + 208 * (m : Int) ≤ x) (h2 : x < 264 + 208 * ((m : Int) + 1)) : whereV g x = (5, (m : Int), 0, x - (264 + 208 * (m : Int))) := by
  rw [where_row hm (n := 2) (by decide) (by omega) (by simp only [atN]; omega) (by simp only [atN]; omega), if_neg (by decide)]
  simp only [atN, kindN, sizeN]
  have e1 : (x - 264) / 208 = m := by omega
  have e2 : (x - 264) % 208 = x - (264 + 208 * m) := by omega
  rw [e1, e2]
theorem row3 {g : G} (hm : mayP g) {x : Int} (h1 : 264 + 208 * g.w ≤ x) (h2 : x < 272 + 208 * g.w) : whereV g x = (6, 0, 0, x - (264 + 208 * g.w)) := by
  rw [where_row hm (n := 3) (by decide) (by have := hm.1; omega) (by simp only [atN]; omega) (by simp only [atN]; omega), if_neg (by decide)]
  simp only [atN, kindN, sizeN]
  congr 3 <;> omega
theorem row4 {g : G} (hm : mayP g) {x : Int} (h1 : 272 + 208 * g.w ≤ x) (h2 : x < 280 + 208 * g.w) : whereV g x = (7, 0, 0, x - (264 + 208 * g.w) - 8) := by
  rw [where_row hm (n := 4) (by decide) (by have := hm.1; omega) (by simp only [atN]; omega) (by simp only [atN]; omega), if_neg (by decide)]
  simp only [atN, kindN, sizeN]
  congr 3 <;> omega
theorem row5 {g : G} (hm : mayP g) {x : Int} (h1 : 280 + 208 * g.w ≤ x) (h2 : x < 280 + 208 * g.w + 16 * g.i) : whereV g x = (8, (x - (280 + 208 * g.w)) / 16, 0, (x - (280 + 208 * g.w)) % 16) := by
  rw [where_row hm (n := 5) (by decide) (by have := hm.1; omega) (by simp only [atN]; omega) (by simp only [atN]; omega), if_neg (by decide)]
  simp only [atN, kindN, sizeN]
theorem row6 {g : G} (hm : mayP g) {x : Int} (h1 : 280 + 208 * g.w + 16 * g.i ≤ x) (h2 : x < 280 + 208 * g.w + 16 * g.i + 8 * g.b) : whereV g x = (9, (x - (280 + 208 * g.w + 16 * g.i)) / 8, 0, (x - (280 + 208 * g.w + 16 * g.i)) % 8) := by
  rw [where_row hm (n := 6) (by decide) (by have := hm.1; have := hm.2.2.1; omega) (by simp only [atN]; omega) (by simp only [atN]; omega), if_neg (by decide)]
  simp only [atN, kindN, sizeN]

set_option maxRecDepth 100000 in
set_option maxHeartbeats 4000000 in
theorem rwhere_rest {w0 w : World} (g : G) (x : Int) (hm : mayP g) (hx1 : 264 ≤ x) (hx7 : x < atN g 7) (h : At w0 w) :
    Calls Try.prog 100 #[gV g, .int .i64 x] w fun e w' => e = .returned (four .i64 (whereV g x)) ∧ At w0 w' := by
  have Hmb := Lib.hid (mayB_true.2 hm)
  have HWd := Lib.hid (show wordsV g = atN g 7 from if_pos hm)
  have hb7 := (at_bd hm 7).2
  have HM := Lib.hid hm
  obtain ⟨g1, g2, g3, g4, g5, g6⟩ := hm
  unfold gV
  go_enter Try.func100, Try.ntmps100
  go_wp2_with fail
  refine (rmay_any g (h.alloc _).self).mono ?_
  rintro e w1 ⟨rfl, k1⟩
  have b1 := (Box.new w g _).at k1
  have h1 := (h.alloc _).trans k1
  rw [Hmb.out]
  clear k1 h
  have hc0 := b1.c0
  have hc1 := b1.c1
  have hc2 := b1.c2
  go_wp2_with fail
  refine (rwords_any g h1.self).mono ?_
  rintro e w2 ⟨rfl, k2⟩
  have b2 := b1.at k2
  have h2 := h1.trans k2
  rw [HWd.out]
  clear k2 hc0 hc1 hc2 b1 h1
  go_wp2_with fail
  go_loop [8] (fun j => ∃ i : Nat, i ≤ 4 ∧ 8 + 64 * (i : Int) ≤ x ∧ j = .int .i64 i) (fun j => 4 - (intOf j).toNat)
  case atStart => exact ⟨0, by omega, by omega, rfl⟩
  case round =>
    obtain ⟨i, hi, hxi, rfl⟩ := hrel
    by_cases hi4 : i < 4
    · have HS := Lib.hid (show sessV (i : Int) = 8 + 64 * (i : Int) from if_pos (by omega))
      go_wp2_with fail
      go_loop [9] (fun k => ∃ m : Nat, (m ≤ 4) ∧ k = .int .i64 m) (fun k => 4 - (intOf k).toNat)
      case atStart => exact ⟨0, by omega, rfl⟩
      case round =>
        obtain ⟨m, hm4, rfl⟩ := hrel
        by_cases hlt : m < 4
        · have HP := Lib.hid (show partV (i : Int) (m : Int) 4 8 12 = 16 + 64 * (i : Int) + 12 * (m : Int) from part_in (by omega) (by omega) (by omega) (by omega))
          go_wp2_with fail
          refine (rslot_at _ _ _).mono ?_
          rintro e _ ⟨rfl, rfl⟩
          rw [HP.out]
          clear HP
          go_wp2_with fail
          go_round
          case rel => exact ⟨m + 1, by omega, by go_num⟩
          case measure => simp [intOf]; omega
        · obtain rfl : m = 4 := by omega
          go_wp2_with fail
          go_loop [11] (fun k => ∃ m : Nat, (m ≤ 4) ∧ k = .int .i64 m) (fun k => 4 - (intOf k).toNat)
          case atStart => exact ⟨0, by omega, rfl⟩
          case round =>
            obtain ⟨m, hm4, rfl⟩ := hrel
            by_cases hlt : m < 4
            · have HP := Lib.hid (show partV (i : Int) (m : Int) 4 56 2 = 64 + 64 * (i : Int) + 2 * (m : Int) from part_in (by omega) (by omega) (by omega) (by omega))
              go_wp2_with fail
              refine (rdescriptor_at _ _ _).mono ?_
              rintro e _ ⟨rfl, rfl⟩
              rw [HP.out]
              clear HP
              go_wp2_with fail
              go_round
              case rel => exact ⟨m + 1, by omega, by go_num⟩
              case measure => simp [intOf]; omega
            · obtain rfl : m = 4 := by omega
              go_wp2_with fail
              refine (rsession_at _ _).mono ?_
              rintro e _ ⟨rfl, rfl⟩
              rw [HS.out]
              go_wp2_with fail
              go_round
              case rel => exact ⟨i + 1, by omega, by omega, by go_num⟩
              case measure => simp [intOf]; omega
    · obtain rfl : i = 4 := by omega
      have hd0 := b2.c0
      have hd1 := b2.c1
      have hd2 := b2.c2
      have B2 := Lib.hid b2
      go_wp2_with fail
      clear hd0 hd1 hd2
      go_loopw [14] (fun j wr => ∃ m : Nat, (m : Int) ≤ g.w ∧ 264 + 208 * (m : Int) ≤ x ∧ j = .int .i64 m ∧ At w0 wr ∧ Box wr w.heap.size g) (fun j _ => 4 - (intOf j).toNat)
      case atStart => exact ⟨0, by omega, by omega, rfl, h2, B2.out⟩
      case round =>
        clear h2 B2 b2
        obtain ⟨m, hmw, hxm, rfl, h3, b3⟩ := hrel
        have hd0 := b3.c0
        have hd1 := b3.c1
        have hd2 := b3.c2
        by_cases hlt : (m : Int) < g.w
        · have HP := Lib.hid (show placeV g 2 (m : Int) = 264 + 208 * (m : Int) from if_pos ⟨HM.out, by omega, by simp only [manyN]; omega⟩)
          go_wp2_with fail
          refine (rarea_at g (m : Int) h3.self).mono ?_
          rintro e w4 ⟨rfl, k4⟩
          have b4 := b3.at k4
          have h4 := h3.trans k4
          rw [HP.out]
          clear k4 b3 h3 HP hd0 hd1 hd2
          by_cases hin : x < 264 + 208 * ((m : Int) + 1)
          · have HR := Lib.hid (row2 HM.out hlt hxm hin)
            go_wp2_with fail
            refine bodyPost_ret (results_tmp4 rfl _ _ _) rfl ?_
            exact ⟨four_eq HR.out _ rfl, h4⟩
          · go_wp2_with fail
            go_roundw
            case rel => exact ⟨m + 1, by omega, by omega, by go_num, h4, b4⟩
            case measure => simp [intOf]; omega
        · have hmm : (m : Int) = g.w := by omega
          have hx8 : 264 + 208 * g.w ≤ x := by omega
          have HP3 := Lib.hid (show placeV g 3 0 = 264 + 208 * g.w from (if_pos ⟨HM.out, by decide, by simp only [manyN]; decide⟩ : placeV g 3 0 = atN g 3 + sizeN 3 * 0).trans (by simp only [atN, sizeN]; omega))
          have HP5 := Lib.hid (show placeV g 5 0 = 280 + 208 * g.w from (if_pos ⟨HM.out, by decide, by simp only [manyN]; omega⟩ : placeV g 5 0 = atN g 5 + sizeN 5 * 0).trans (by simp only [atN, sizeN]; omega))
          have HP6 := Lib.hid (show placeV g 6 0 = 280 + 208 * g.w + 16 * g.i from (if_pos ⟨HM.out, by decide, by simp only [manyN]; omega⟩ : placeV g 6 0 = atN g 6 + sizeN 6 * 0).trans (by simp only [atN, sizeN]; omega))
          clear hmm
          go_wp2_with fail
          refine (rinodemap_at g h3.self).mono ?_
          rintro e w4 ⟨rfl, k4⟩
          have b4 := b3.at k4
          have h4 := h3.trans k4
          rw [HP3.out]
          clear k4 b3 h3 hd0 hd1 hd2
          have hd0 := b4.c0
          have hd1 := b4.c1
          have hd2 := b4.c2
          by_cases c3 : x < 272 + 208 * g.w
          · have HR := Lib.hid (row3 HM.out hx8 c3)
            go_wp2_with fail
            refine bodyPost_ret (results_tmp4 rfl _ _ _) rfl ?_
            exact ⟨four_eq HR.out _ rfl, h4⟩
          by_cases c4 : x < 280 + 208 * g.w
          · have HR := Lib.hid (row4 HM.out (by omega) c4)
            go_wp2_with fail
            refine bodyPost_ret (results_tmp4 rfl _ _ _) rfl ?_
            exact ⟨four_eq HR.out _ rfl, h4⟩
          go_wp2_with fail
          refine (rinode_at g 0 h4.self).mono ?_
          rintro e w5 ⟨rfl, k5⟩
          have b5 := b4.at k5
          have h5 := h4.trans k5
          rw [HP5.out]
          clear k5 b4 h4 hd0 hd1 hd2
          have hd0 := b5.c0
          have hd1 := b5.c1
          have hd2 := b5.c2
          by_cases c5 : x < 280 + 208 * g.w + 16 * g.i
          · have HR := Lib.hid (row5 HM.out (by omega) c5)
            go_wp2_with fail
            refine bodyPost_ret (results_tmp4 rfl _ _ _) rfl ?_
            exact ⟨four_eq HR.out _ rfl, h5⟩
          have HR := Lib.hid (row6 HM.out (x := x) (by omega) (by simpa [atN] using hx7))
          have hx9 : x < 280 + 208 * g.w + 16 * g.i + 8 * g.b := by simpa [atN] using hx7
          go_wp2_with fail
          refine (rblock_at g 0 h5.self).mono ?_
          rintro e w6 ⟨rfl, k6⟩
          have h6 := h5.trans k6
          rw [HP6.out]
          clear k6 b5 h5 hd0 hd1 hd2
          go_wp2_with fail
          refine bodyPost_ret (results_tmp4 rfl _ _ _) rfl ?_
          exact ⟨four_eq HR.out _ rfl, h6⟩

set_option maxHeartbeats 1000000 in
theorem rwhere_none {w0 w : World} (g : G) (x : Int) (hn : ¬ mayP g ∨ x < 0 ∨ atN g 7 ≤ x) (h : At w0 w) :
    Calls Try.prog 100 #[gV g, .int .i64 x] w fun e w' => e = .returned (four .i64 (whereV g x)) ∧ At w0 w' := by
  have HV := Lib.hid (where_none hn)
  by_cases hm : mayP g
  · have Hmb := Lib.hid (mayB_true.2 hm)
    have HWd := Lib.hid (show wordsV g = atN g 7 from if_pos hm)
    have h7 := (at_bd hm 7).1
    by_cases hx : x < 0
    · clear hm hn
      unfold gV
      go_enter Try.func100, Try.ntmps100
      go_wp2_with fail
      refine (rmay_any g (h.alloc _)).mono ?_
      rintro e w1 ⟨rfl, h1⟩
      rw [Hmb.out]
      go_wp2_with fail
      refine bodyPost_ret (results_tmp4 rfl _ _ _) rfl ?_
      exact ⟨four_eq HV.out _ rfl, h1⟩
    · have hx7 : atN g 7 ≤ x := by rcases hn with hh | hh | hh; exact absurd hm hh; exact absurd hh hx; exact hh
      clear hm hn
      unfold gV
      go_enter Try.func100, Try.ntmps100
      go_wp2_with fail
      refine (rmay_any g (h.alloc _).self).mono ?_
      rintro e w1 ⟨rfl, k1⟩
      have b1 := (Box.new w g _).at k1
      have h1 := (h.alloc _).trans k1
      rw [Hmb.out]
      clear k1 h
      have hc0 := b1.c0
      have hc1 := b1.c1
      have hc2 := b1.c2
      go_wp2_with fail
      refine (rwords_any g h1.self).mono ?_
      rintro e w2 ⟨rfl, k2⟩
      have b2 := b1.at k2
      have h2 := h1.trans k2
      rw [HWd.out]
      clear k2 hc0 hc1 hc2 b1 h1
      go_wp2_with fail
      refine bodyPost_ret (results_tmp4 rfl _ _ _) rfl ?_
      exact ⟨four_eq HV.out _ rfl, h2⟩
  · have Hmb := Lib.hid (mayB_false.2 hm)
    clear hm hn
    unfold gV
    go_enter Try.func100, Try.ntmps100
    go_wp2_with fail
    refine (rmay_any g (h.alloc _)).mono ?_
    rintro e w1 ⟨rfl, h1⟩
    rw [Hmb.out]
    go_wp2_with fail
    refine bodyPost_ret (results_tmp4 rfl _ _ _) rfl ?_
    exact ⟨four_eq HV.out _ rfl, h1⟩

theorem rwhere_any {w0 w : World} (g : G) (x : Int) (h : At w0 w) :
    Calls Try.prog 100 #[gV g, .int .i64 x] w fun e w' => e = .returned (four .i64 (whereV g x)) ∧ At w0 w' := by
  by_cases hm : mayP g
  · by_cases h0 : x < 0
    · exact rwhere_none g x (.inr (.inl h0)) h
    · by_cases h7 : x < atN g 7
      · by_cases h1 : x < 8
        · exact rwhere_super g x hm (by omega) h1 h
        · by_cases h2 : x < 264
          · exact rwhere_sess g x hm (by omega) h2 h
          · exact rwhere_rest g x hm (by omega) h7 h
      · exact rwhere_none g x (.inr (.inr (by omega))) h
  · exact rwhere_none g x (.inl hm) h

end Go.Proofs.Ytkopfnldgnkkoaa
