/-
  THE WALK OF the law LayoutWhole; and what Of tells of a new device's words.
-/
import Derived.Test.YteaokdkfpafmaaaDoorLayK
import Derived.Test.YteaokdkfpafmaaaDoorLayQ
namespace Go.Proofs.YteaokdkfpafmaaaDoor
open Go.RowKit

theorem whole_cases {g : G} (hm : mayP g) {x : Int} (h0 : 0 ≤ x) (h7 : x < atN g 7) :
    (x < 8 ∧ whereV g x = (1, 0, 0, x)) ∨
    (∃ q r : Int, 0 ≤ q ∧ q ≤ 3 ∧ 0 ≤ r ∧ r < 8 ∧ x = 8 + 64 * q + r ∧ whereV g x = (2, q, 0, r)) ∨
    (∃ q k r : Int, 0 ≤ q ∧ q ≤ 3 ∧ 0 ≤ k ∧ k ≤ 3 ∧ 0 ≤ r ∧ r < 12 ∧ x = 16 + 64 * q + 12 * k + r ∧ whereV g x = (3, q, k, r)) ∨
    (∃ q k r : Int, 0 ≤ q ∧ q ≤ 3 ∧ 0 ≤ k ∧ k ≤ 3 ∧ 0 ≤ r ∧ r < 2 ∧ x = 64 + 64 * q + 2 * k + r ∧ whereV g x = (4, q, k, r)) ∨
    (∃ q r : Int, 0 ≤ q ∧ q < g.w ∧ 0 ≤ r ∧ r < 208 ∧ x = 264 + 208 * q + r ∧ whereV g x = (5, q, 0, r)) ∨
    (∃ r : Int, 0 ≤ r ∧ r < 8 ∧ x = 264 + 208 * g.w + r ∧ whereV g x = (6, 0, 0, r)) ∨
    (∃ r : Int, 0 ≤ r ∧ r < 8 ∧ x = 272 + 208 * g.w + r ∧ whereV g x = (7, 0, 0, r)) ∨
    (∃ q r : Int, 0 ≤ q ∧ q < g.i ∧ 0 ≤ r ∧ r < 16 ∧ x = 280 + 208 * g.w + 16 * q + r ∧ whereV g x = (8, q, 0, r)) ∨
    (∃ q r : Int, 0 ≤ q ∧ q < g.b ∧ 0 ≤ r ∧ r < 8 ∧ x = 280 + 208 * g.w + 16 * g.i + 8 * q + r ∧ whereV g x = (9, q, 0, r)) := by
  obtain ⟨g1, g2, g3, g4, g5, g6⟩ := id hm
  have h7' : x < 280 + 208 * g.w + 16 * g.i + 8 * g.b := by simpa [atN] using h7
  by_cases c1 : x < 8
  · left; refine ⟨c1, ?_⟩
    rw [where_row hm (n := 0) (by decide) h0 (by simpa [atN] using h0) (by simpa [atN] using c1), if_neg (by decide)]
    simp only [atN, kindN, sizeN]; congr 3 <;> omega
  right
  by_cases c2 : x < 264
  · have hw : whereV g x = inSessV ((x - 8) / 64) ((x - 8) % 64) := by
      rw [where_row hm (n := 1) (by decide) h0 (by simp only [atN]; omega) (by simpa [atN] using c2), if_pos rfl]; rfl
    by_cases d1 : (x - 8) % 64 < 8
    · left
      exact ⟨(x - 8) / 64, (x - 8) % 64, by omega, by omega, by omega, d1, by omega, by rw [hw]; unfold inSessV; rw [if_pos d1]⟩
    · right
      by_cases d2 : (x - 8) % 64 < 56
      · left
        exact ⟨(x - 8) / 64, ((x - 8) % 64 - 8) / 12, ((x - 8) % 64 - 8) % 12, by omega, by omega, by omega, by omega, by omega, by omega, by omega, by rw [hw]; unfold inSessV; rw [if_neg d1, if_pos d2]⟩
      · right; left
        exact ⟨(x - 8) / 64, ((x - 8) % 64 - 56) / 2, ((x - 8) % 64 - 56) % 2, by omega, by omega, by omega, by omega, by omega, by omega, by omega, by rw [hw]; unfold inSessV; rw [if_neg d1, if_neg d2]⟩
  right; right; right
  by_cases c3 : x < 264 + 208 * g.w
  · left
    refine ⟨(x - 264) / 208, (x - 264) % 208, by omega, by omega, by omega, by omega, by omega, ?_⟩
    rw [where_row hm (n := 2) (by decide) h0 (by simp only [atN]; omega) (by simpa [atN] using c3), if_neg (by decide)]; simp only [atN, kindN, sizeN]
  right
  by_cases c4 : x < 272 + 208 * g.w
  · left
    refine ⟨x - (264 + 208 * g.w), by omega, by omega, by omega, ?_⟩
    rw [where_row hm (n := 3) (by decide) h0 (by simp only [atN]; omega) (by simpa [atN] using c4), if_neg (by decide)]; simp only [atN, kindN, sizeN]
    congr 3 <;> omega
  right
  by_cases c5 : x < 280 + 208 * g.w
  · left
    refine ⟨x - (272 + 208 * g.w), by omega, by omega, by omega, ?_⟩
    rw [where_row hm (n := 4) (by decide) h0 (by simp only [atN]; omega) (by simpa [atN] using c5), if_neg (by decide)]; simp only [atN, kindN, sizeN]
    congr 3 <;> omega
  right
  by_cases c6 : x < 280 + 208 * g.w + 16 * g.i
  · left
    refine ⟨(x - (280 + 208 * g.w)) / 16, (x - (280 + 208 * g.w)) % 16, by omega, by omega, by omega, by omega, by omega, ?_⟩
    rw [where_row hm (n := 5) (by decide) h0 (by simp only [atN]; omega) (by simpa [atN] using c6), if_neg (by decide)]; simp only [atN, kindN, sizeN]
  right
  refine ⟨(x - (280 + 208 * g.w + 16 * g.i)) / 8, (x - (280 + 208 * g.w + 16 * g.i)) % 8, by omega, by omega, by omega, by omega, by omega, ?_⟩
  rw [where_row hm (n := 6) (by decide) h0 (by simp only [atN]; omega) h7, if_neg (by decide)]; simp only [atN, kindN, sizeN]

theorem fmt_get {g : G} (hm : mayP g) : (fmtL g)[0]?.getD 0 = 32762617960297063 ∧ (fmtL g)[1]?.getD 0 = g.w ∧ (fmtL g)[2]?.getD 0 = g.i ∧ (fmtL g)[3]?.getD 0 = g.b := by
  obtain ⟨g1, g2, g3, g4, g5, g6⟩ := hm
  obtain ⟨N, hN⟩ : ∃ N : Nat, (atN g 7).toNat = N := ⟨_, rfl⟩
  have h5 : 4 ≤ N := by have : atN g 7 = 280 + 208 * g.w + 16 * g.i + 8 * g.b := rfl; omega
  have e : ∀ c : Int, 200 ≤ c → ∀ j : Nat, j < 4 → c.toNat ≠ j := fun c hc j hj => by omega
  unfold fmtL
  rw [hN]
  have f1 := e (264 + 208 * g.w) (by omega)
  have f2 := e (272 + 208 * g.w) (by omega)
  have f3 := e (296 + 208 * g.w) (by omega)
  have f4 := e (297 + 208 * g.w) (by omega)
  refine ⟨?_, ?_, ?_, ?_⟩
  · rw [List.getElem?_set_ne (f4 0 (by decide)), List.getElem?_set_ne (f3 0 (by decide)), List.getElem?_set_ne (f2 0 (by decide)), List.getElem?_set_ne (f1 0 (by decide))]
    simp [show 0 < N by omega]
  · rw [List.getElem?_set_ne (f4 1 (by decide)), List.getElem?_set_ne (f3 1 (by decide)), List.getElem?_set_ne (f2 1 (by decide)), List.getElem?_set_ne (f1 1 (by decide))]
    simp [show 1 < N by omega]
  · rw [List.getElem?_set_ne (f4 2 (by decide)), List.getElem?_set_ne (f3 2 (by decide)), List.getElem?_set_ne (f2 2 (by decide)), List.getElem?_set_ne (f1 2 (by decide))]
    simp [show 2 < N by omega]
  · rw [List.getElem?_set_ne (f4 3 (by decide)), List.getElem?_set_ne (f3 3 (by decide)), List.getElem?_set_ne (f2 3 (by decide)), List.getElem?_set_ne (f1 3 (by decide))]
    simp [show 3 < N by omega]

/-- What begins with a new device's words tells its geometry. -/
theorem of_fmt {g : G} (hm : mayP g) (more : List Int) : ofR (fmtL g ++ more) = .tuple #[.agg #[.int .i64 g.w, .int .i64 g.i, .int .i64 g.b], .bool true] := by
  obtain ⟨e0, e1, e2, e3⟩ := fmt_get hm
  have hl := fmtL_length g
  have h5 : 500 ≤ (atN g 7).toNat := by obtain ⟨g1, g2, g3, g4, g5, g6⟩ := hm; have : atN g 7 = 280 + 208 * g.w + 16 * g.i + 8 * g.b := rfl; omega
  have hg : ∀ j, j < 4 → (fmtL g ++ more)[j]?.getD (0 : Int) = (fmtL g)[j]?.getD 0 := fun j hj => by rw [List.getElem?_append_left (by omega)]
  have a0 := (hg 0 (by decide)).trans e0
  have a1 := (hg 1 (by decide)).trans e1
  have a2 := (hg 2 (by decide)).trans e2
  have a3 := (hg 3 (by decide)).trans e3
  have hG : ofG (fmtL g ++ more) = g := by unfold ofG; rw [a1, a2, a3]
  have hP : ofP (fmtL g ++ more) := by
    unfold ofP
    rw [hG, a0, a1, a2, a3]
    have hw : wordsV g = atN g 7 := if_pos hm
    refine ⟨by simp; omega, rfl, ?_, ?_, ?_, hm, ?_⟩
    · have := hm.2.1; omega
    · have := hm.2.2.2.1; omega
    · have := hm.2.2.2.2.2; omega
    · rw [hw, List.length_append, hl]; have := (at_bd hm 7).1; omega
  rw [of_yes hP, a1, a2, a3]

set_option maxRecDepth 100000 in
set_option maxHeartbeats 8000000 in
theorem walk_whole (a b c : Nat) (ha : a ≤ 65535) (hb : b ≤ 65535) (hc : c ≤ 65535) (w : World) (hl : Least w) :
    Calls Tryd.prog 9 #[.int .u16 (a : Int), .int .u16 (b : Int), .int .u16 (c : Int)] w fun e w' => e = .returned (.bool true) ∧ Below w.heap.size w w' := by
  have h := At.refl hl
  have hm := small_may a b c
  have HGw := Lib.hid (show (smallG a b c).w = 1 + (a : Int) % 4 by simp only [smallG]; omega)
  have HGi := Lib.hid (show (smallG a b c).i = 2 + (b : Int) % 63 by simp only [smallG]; omega)
  have HGb := Lib.hid (show (smallG a b c).b = 2 + (c : Int) % 511 by simp only [smallG]; omega)
  obtain ⟨g, hg⟩ : ∃ g, smallG a b c = g := ⟨_, rfl⟩
  rw [hg] at hm HGw HGi HGb
  clear hg
  have HM := Lib.hid hm
  obtain ⟨N, hN⟩ : ∃ N : Nat, (atN g 7).toNat = N := ⟨_, rfl⟩
  have hN2 : atN g 7 = (N : Int) := by have := (at_bd hm 7).1; omega
  have HN := Lib.hid hN
  have HN2 := Lib.hid hN2
  have HWd := Lib.hid (show wordsV g = (N : Int) from (if_pos hm).trans hN2)
  have hNb : 500 ≤ N ∧ N ≤ 6232 ∧ N % 8 = 0 := by
    obtain ⟨g1, g2, g3, g4, g5, g6⟩ := hm
    have : atN g 7 = 280 + 208 * g.w + 16 * g.i + 8 * g.b := rfl
    omega
  have hN8 : ((N : Int) % 8 != 0) = false := by rw [bne_eq_false_iff_eq]; omega
  have hN3 : 500 ≤ N := hNb.1
  have hN4 : N ≤ 6232 := hNb.2.1
  clear hN hN2 hNb
  obtain ⟨g1, g2, g3, g4, g5, g6⟩ := hm
  go_enter Tryd.func9, Tryd.ntmps9
  go_upto_region 2 with (fail)
  rw [← HGw.out, ← HGi.out, ← HGb.out]
  have bx := Box.new w g 23
  replace h := h.alloc (.cells #[.int .i64 g.w, .int .i64 g.i, .int .i64 g.b] 23)
  obtain ⟨B, hB⟩ : ∃ B, w.heap.size = B := ⟨_, rfl⟩
  rw [hB] at bx
  simp only [hB]
  generalize (w.alloc (.cells #[.int .i64 g.w, .int .i64 g.i, .int .i64 g.b] 23)) = w1 at *
  clear hB HGw HGi HGb
  have hc0 := bx.c0
  have hc1 := bx.c1
  have hc2 := bx.c2
  go_wp2_with fail
  refine (words_any g h.self).mono ?_
  rintro e w2 ⟨rfl, k'⟩
  rw [HWd.out]
  replace h := h.trans k'
  replace bx := bx.at k'
  clear k' hc0 hc1 hc2
  go_wp2_with fail
  go_loopw [9] (fun j wr => ∃ t : Nat, t ≤ N ∧ j = .int .i64 t ∧ At w wr ∧ Box wr B g) (fun j _ => N - (intOf j).toNat)
  case atStart => exact ⟨0, by omega, rfl, h, bx⟩
  case round =>
    clear h bx
    obtain ⟨t, ht, rfl, h, bx⟩ := hrel
    have hc0 := bx.c0
    have hc1 := bx.c1
    have hc2 := bx.c2
    by_cases hlt : t < N
    · rcases whole_cases HM.out (x := (t : Int)) (by omega) (by rw [HN2.out]; omega) with ⟨p1, hv⟩ | ⟨q, r, p1, p2, p3, p4, hx, hv⟩ | ⟨q, k, r, p1, p2, p3, p4, p5, p6, hx, hv⟩ | ⟨q, k, r, p1, p2, p3, p4, p5, p6, hx, hv⟩ | ⟨q, r, p1, p2, p3, p4, hx, hv⟩ | ⟨r, p1, p2, hx, hv⟩ | ⟨r, p1, p2, hx, hv⟩ | ⟨q, r, p1, p2, p3, p4, hx, hv⟩ | ⟨q, r, p1, p2, p3, p4, hx, hv⟩
      · have HV := Lib.hid hv
        clear hv
        go_wp2_with fail
        refine (where_any g (t : Int) (by omega) h.self).mono ?_
        rintro e w5 ⟨rfl, k'⟩
        rw [HV.out]
        unfold four
        dsimp only
        replace h := h.trans k'
        replace bx := bx.at k'
        clear k' hc0 hc1 hc2
        have hc0 := bx.c0
        have hc1 := bx.c1
        have hc2 := bx.c2
        clear hc0 hc1 hc2
        go_wp2_with fail
        go_roundw
        case rel => exact ⟨t + 1, by omega, by go_num, h, bx⟩
        case measure => simp [intOf]; omega
      · have HV := Lib.hid hv
        clear hv
        obtain ⟨P, hP⟩ : ∃ P, sessV q = P := ⟨_, rfl⟩
        have hP2 := hP.symm.trans (show sessV q = 8 + 64 * q from if_pos ⟨by omega, by omega⟩)
        have hP3 : 0 ≤ P := by omega
        have hP4 : P ≤ 7000 := by omega
        have hb : ((P + r) != (t : Int)) = false := by rw [bne_eq_false_iff_eq]; omega
        have HP := Lib.hid hP
        clear hP hP2 hx
        go_wp2_with fail
        refine (where_any g (t : Int) (by omega) h.self).mono ?_
        rintro e w5 ⟨rfl, k'⟩
        rw [HV.out]
        unfold four
        dsimp only
        replace h := h.trans k'
        replace bx := bx.at k'
        clear k' hc0 hc1 hc2
        have hc0 := bx.c0
        have hc1 := bx.c1
        have hc2 := bx.c2
        go_wp2_with fail
        refine (session_at q h.self).mono ?_
        rintro e w6 ⟨rfl, k'⟩
        rw [HP.out]
        replace h := h.trans k'
        replace bx := bx.at k'
        clear k' hc0 hc1 hc2
        go_wp2_with fail
        go_roundw
        case rel => exact ⟨t + 1, by omega, by go_num, h, bx⟩
        case measure => simp [intOf]; omega
      · have HV := Lib.hid hv
        clear hv
        obtain ⟨P, hP⟩ : ∃ P, partV q k 4 8 12 = P := ⟨_, rfl⟩
        have hP2 := hP.symm.trans (show partV q k 4 8 12 = 8 + 8 + 64 * q + 12 * k from part_in (by omega) (by omega) (by omega) (by omega))
        have hP3 : 0 ≤ P := by omega
        have hP4 : P ≤ 7000 := by omega
        have hb : ((P + r) != (t : Int)) = false := by rw [bne_eq_false_iff_eq]; omega
        have HP := Lib.hid hP
        clear hP hP2 hx
        go_wp2_with fail
        refine (where_any g (t : Int) (by omega) h.self).mono ?_
        rintro e w5 ⟨rfl, k'⟩
        rw [HV.out]
        unfold four
        dsimp only
        replace h := h.trans k'
        replace bx := bx.at k'
        clear k' hc0 hc1 hc2
        have hc0 := bx.c0
        have hc1 := bx.c1
        have hc2 := bx.c2
        go_wp2_with fail
        refine (slot_at q k h.self).mono ?_
        rintro e w6 ⟨rfl, k'⟩
        rw [HP.out]
        replace h := h.trans k'
        replace bx := bx.at k'
        clear k' hc0 hc1 hc2
        go_wp2_with fail
        go_roundw
        case rel => exact ⟨t + 1, by omega, by go_num, h, bx⟩
        case measure => simp [intOf]; omega
      · have HV := Lib.hid hv
        clear hv
        obtain ⟨P, hP⟩ : ∃ P, partV q k 4 56 2 = P := ⟨_, rfl⟩
        have hP2 := hP.symm.trans (show partV q k 4 56 2 = 56 + 8 + 64 * q + 2 * k from part_in (by omega) (by omega) (by omega) (by omega))
        have hP3 : 0 ≤ P := by omega
        have hP4 : P ≤ 7000 := by omega
        have hb : ((P + r) != (t : Int)) = false := by rw [bne_eq_false_iff_eq]; omega
        have HP := Lib.hid hP
        clear hP hP2 hx
        go_wp2_with fail
        refine (where_any g (t : Int) (by omega) h.self).mono ?_
        rintro e w5 ⟨rfl, k'⟩
        rw [HV.out]
        unfold four
        dsimp only
        replace h := h.trans k'
        replace bx := bx.at k'
        clear k' hc0 hc1 hc2
        have hc0 := bx.c0
        have hc1 := bx.c1
        have hc2 := bx.c2
        go_wp2_with fail
        refine (descriptor_at q k h.self).mono ?_
        rintro e w6 ⟨rfl, k'⟩
        rw [HP.out]
        replace h := h.trans k'
        replace bx := bx.at k'
        clear k' hc0 hc1 hc2
        go_wp2_with fail
        go_roundw
        case rel => exact ⟨t + 1, by omega, by go_num, h, bx⟩
        case measure => simp [intOf]; omega
      · have HV := Lib.hid hv
        clear hv
        obtain ⟨P, hP⟩ : ∃ P, placeV g 2 q = P := ⟨_, rfl⟩
        have hP2 := hP.symm.trans (show placeV g 2 q = 264 + 208 * q from (if_pos ⟨HM.out, by omega, by simp only [manyN]; omega⟩ : placeV g 2 q = atN g 2 + sizeN 2 * q).trans (by simp only [atN, sizeN]))
        have hP3 : 0 ≤ P := by omega
        have hP4 : P ≤ 7000 := by omega
        have hb : ((P + r) != (t : Int)) = false := by rw [bne_eq_false_iff_eq]; omega
        have HP := Lib.hid hP
        clear hP hP2 hx
        go_wp2_with fail
        refine (where_any g (t : Int) (by omega) h.self).mono ?_
        rintro e w5 ⟨rfl, k'⟩
        rw [HV.out]
        unfold four
        dsimp only
        replace h := h.trans k'
        replace bx := bx.at k'
        clear k' hc0 hc1 hc2
        have hc0 := bx.c0
        have hc1 := bx.c1
        have hc2 := bx.c2
        go_wp2_with fail
        refine (area_at g q h.self).mono ?_
        rintro e w6 ⟨rfl, k'⟩
        rw [HP.out]
        replace h := h.trans k'
        replace bx := bx.at k'
        clear k' hc0 hc1 hc2
        go_wp2_with fail
        go_roundw
        case rel => exact ⟨t + 1, by omega, by go_num, h, bx⟩
        case measure => simp [intOf]; omega
      · have HV := Lib.hid hv
        clear hv
        obtain ⟨P, hP⟩ : ∃ P, placeV g 3 0 = P := ⟨_, rfl⟩
        have hP2 := hP.symm.trans (show placeV g 3 0 = 264 + 208 * g.w from (if_pos ⟨HM.out, by decide, by simp only [manyN]; decide⟩ : placeV g 3 0 = atN g 3 + sizeN 3 * 0).trans (by simp only [atN, sizeN]; omega))
        have hP3 : 0 ≤ P := by omega
        have hP4 : P ≤ 7000 := by omega
        have hb : ((P + r) != (t : Int)) = false := by rw [bne_eq_false_iff_eq]; omega
        have HP := Lib.hid hP
        clear hP hP2 hx
        go_wp2_with fail
        refine (where_any g (t : Int) (by omega) h.self).mono ?_
        rintro e w5 ⟨rfl, k'⟩
        rw [HV.out]
        unfold four
        dsimp only
        replace h := h.trans k'
        replace bx := bx.at k'
        clear k' hc0 hc1 hc2
        have hc0 := bx.c0
        have hc1 := bx.c1
        have hc2 := bx.c2
        go_wp2_with fail
        refine (inode_map_at g h.self).mono ?_
        rintro e w6 ⟨rfl, k'⟩
        rw [HP.out]
        replace h := h.trans k'
        replace bx := bx.at k'
        clear k' hc0 hc1 hc2
        go_wp2_with fail
        go_roundw
        case rel => exact ⟨t + 1, by omega, by go_num, h, bx⟩
        case measure => simp [intOf]; omega
      · have HV := Lib.hid hv
        clear hv
        obtain ⟨P, hP⟩ : ∃ P, placeV g 4 0 = P := ⟨_, rfl⟩
        have hP2 := hP.symm.trans (show placeV g 4 0 = 272 + 208 * g.w from (if_pos ⟨HM.out, by decide, by simp only [manyN]; decide⟩ : placeV g 4 0 = atN g 4 + sizeN 4 * 0).trans (by simp only [atN, sizeN]; omega))
        have hP3 : 0 ≤ P := by omega
        have hP4 : P ≤ 7000 := by omega
        have hb : ((P + r) != (t : Int)) = false := by rw [bne_eq_false_iff_eq]; omega
        have HP := Lib.hid hP
        clear hP hP2 hx
        go_wp2_with fail
        refine (where_any g (t : Int) (by omega) h.self).mono ?_
        rintro e w5 ⟨rfl, k'⟩
        rw [HV.out]
        unfold four
        dsimp only
        replace h := h.trans k'
        replace bx := bx.at k'
        clear k' hc0 hc1 hc2
        have hc0 := bx.c0
        have hc1 := bx.c1
        have hc2 := bx.c2
        go_wp2_with fail
        refine (block_map_at g h.self).mono ?_
        rintro e w6 ⟨rfl, k'⟩
        rw [HP.out]
        replace h := h.trans k'
        replace bx := bx.at k'
        clear k' hc0 hc1 hc2
        go_wp2_with fail
        go_roundw
        case rel => exact ⟨t + 1, by omega, by go_num, h, bx⟩
        case measure => simp [intOf]; omega
      · have HV := Lib.hid hv
        clear hv
        obtain ⟨P, hP⟩ : ∃ P, placeV g 5 q = P := ⟨_, rfl⟩
        have hP2 := hP.symm.trans (show placeV g 5 q = 280 + 208 * g.w + 16 * q from (if_pos ⟨HM.out, by omega, by simp only [manyN]; omega⟩ : placeV g 5 q = atN g 5 + sizeN 5 * q).trans (by simp only [atN, sizeN]))
        have hP3 : 0 ≤ P := by omega
        have hP4 : P ≤ 7000 := by omega
        have hb : ((P + r) != (t : Int)) = false := by rw [bne_eq_false_iff_eq]; omega
        have HP := Lib.hid hP
        clear hP hP2 hx
        go_wp2_with fail
        refine (where_any g (t : Int) (by omega) h.self).mono ?_
        rintro e w5 ⟨rfl, k'⟩
        rw [HV.out]
        unfold four
        dsimp only
        replace h := h.trans k'
        replace bx := bx.at k'
        clear k' hc0 hc1 hc2
        have hc0 := bx.c0
        have hc1 := bx.c1
        have hc2 := bx.c2
        go_wp2_with fail
        refine (inode_at g q h.self).mono ?_
        rintro e w6 ⟨rfl, k'⟩
        rw [HP.out]
        replace h := h.trans k'
        replace bx := bx.at k'
        clear k' hc0 hc1 hc2
        go_wp2_with fail
        go_roundw
        case rel => exact ⟨t + 1, by omega, by go_num, h, bx⟩
        case measure => simp [intOf]; omega
      · have HV := Lib.hid hv
        clear hv
        obtain ⟨P, hP⟩ : ∃ P, placeV g 6 q = P := ⟨_, rfl⟩
        have hP2 := hP.symm.trans (show placeV g 6 q = 280 + 208 * g.w + 16 * g.i + 8 * q from (if_pos ⟨HM.out, by omega, by simp only [manyN]; omega⟩ : placeV g 6 q = atN g 6 + sizeN 6 * q).trans (by simp only [atN, sizeN]))
        have hP3 : 0 ≤ P := by omega
        have hP4 : P ≤ 7000 := by omega
        have hb : ((P + r) != (t : Int)) = false := by rw [bne_eq_false_iff_eq]; omega
        have HP := Lib.hid hP
        clear hP hP2 hx
        go_wp2_with fail
        refine (where_any g (t : Int) (by omega) h.self).mono ?_
        rintro e w5 ⟨rfl, k'⟩
        rw [HV.out]
        unfold four
        dsimp only
        replace h := h.trans k'
        replace bx := bx.at k'
        clear k' hc0 hc1 hc2
        have hc0 := bx.c0
        have hc1 := bx.c1
        have hc2 := bx.c2
        go_wp2_with fail
        refine (block_at g q h.self).mono ?_
        rintro e w6 ⟨rfl, k'⟩
        rw [HP.out]
        replace h := h.trans k'
        replace bx := bx.at k'
        clear k' hc0 hc1 hc2
        go_wp2_with fail
        go_roundw
        case rel => exact ⟨t + 1, by omega, by go_num, h, bx⟩
        case measure => simp [intOf]; omega
    · have HV := Lib.hid (where_none (g := g) (x := (t : Int)) (.inr (.inr (by rw [HN2.out]; omega))))
      have HF := Lib.hid (of_fmt HM.out [])
      have ht2 : N ≤ t := by omega
      have HNV := Lib.hid (show whereV g (N : Int) = (0, 0, 0, 0) from where_none (.inr (.inr (by rw [HN2.out]; omega))))
      go_wp2_with fail
      refine (where_any g (N : Int) (by omega) h.self).mono ?_
      rintro e w5 ⟨rfl, k'⟩
      rw [HNV.out, four_zero]
      replace h := h.trans k'
      replace bx := bx.at k'
      clear k' hc0 hc1 hc2
      have hc0 := bx.c0
      have hc1 := bx.c1
      have hc2 := bx.c2
      go_wp2_with fail
      refine (format_yes g HM.out h.self).mono ?_
      rintro e w6 ⟨L, rfl, hr, _, k'⟩
      rw [HN.out]
      replace h := h.trans k'
      replace bx := bx.at k'
      clear k' hc0 hc1 hc2
      go_wp2_with fail
      refine (of_any (w0 := w6) _ _ _ (fmtL g) ((fmtL_length g).trans HN.out) (by omega) (fmt_wf HM.out) hr.ints h.self).mono ?_
      rintro e w7 ⟨rfl, k'⟩
      rw [show ofR (fmtL g) = .tuple #[.agg #[.int .i64 g.w, .int .i64 g.i, .int .i64 g.b], .bool true] from (congrArg ofR (List.append_nil _).symm).trans HF.out]
      replace h := h.trans k'
      replace bx := bx.at k'
      clear k' hr HF
      have hc0 := bx.c0
      have hc1 := bx.c1
      have hc2 := bx.c2
      have hBs := (cell_lt hc0).1
      go_wp2_with fail
      refine (works_any (h.alloc _)).mono ?_
      rintro e w8 ⟨rfl, h8⟩
      go_wp2_with fail
      go_ret
      exact ⟨rfl, h8.b⟩

end Go.Proofs.YteaokdkfpafmaaaDoor
