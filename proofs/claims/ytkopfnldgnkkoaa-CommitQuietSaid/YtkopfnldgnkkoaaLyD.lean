/-
  THE WALKS OF grommetref04's functions but Where and Format.
-/
import Derived.Test.YtkopfnldgnkkoaaLyA
import Derived.Deep.RegionHeld3
namespace Go.Proofs.Ytkopfnldgnkkoaa
open Go.RowKit

theorem sess_bd (i : Int) : (sessV i < 0 ∧ sessV i = -1) ∨ (8 ≤ sessV i ∧ sessV i ≤ 200) := by
  unfold sessV; split
  · right; omega
  · left; omega

theorem ret_int {k : IntKind} {a b : Int} (h : a = b) : Ending.returned (.int k a) = .returned (.int k b) := by rw [h]

set_option maxHeartbeats 1000000 in
theorem rmay_any {w0 w : World} (g : G) (h : At w0 w) :
    Calls Try.prog 54 #[gV g] w fun e w' => e = .returned (.bool (mayB g)) ∧ At w0 w' := by
  obtain ⟨x, y, z⟩ := g
  unfold gV
  dsimp only
  have hm : mayB ⟨x, y, z⟩ = (decide (1 ≤ x) && decide (x ≤ 4) && decide (2 ≤ y) && decide (y ≤ 64) && decide (2 ≤ z) && decide (z ≤ 512)) := by
    rw [Bool.eq_iff_iff, mayB_true]; simp only [mayP, Bool.and_eq_true, decide_eq_true_eq]; omega
  have HM := Lib.hid hm
  clear hm
  by_cases h1 : 1 ≤ x <;> by_cases h2 : x ≤ 4 <;> by_cases h3 : 2 ≤ y <;> by_cases h4 : y ≤ 64 <;> by_cases h5 : 2 ≤ z <;> by_cases h6 : z ≤ 512
  all_goals first | (exfalso; omega) | skip
  all_goals
    go_enter Try.func54, Try.ntmps54
    go_wp2_with fail
    go_ret
    exact ⟨by rw [HM.out]; simp [h1, h2, h3, h4, h5, h6], h.alloc _⟩

set_option maxHeartbeats 400000 in
theorem areas_any (w : World) :
    Calls Try.prog 80 #[] w fun e w' => e = .returned (.int .i64 264) ∧ w = w' := by
  go_enter Try.func80, Try.ntmps80
  go_wp2_with fail
  go_ret
  exact ⟨rfl, rfl⟩

set_option maxHeartbeats 400000 in
theorem maps_any {w0 w : World} (g : G) (hm : mayP g) (h : At w0 w) :
    Calls Try.prog 77 #[gV g] w fun e w' => e = .returned (.int .i64 (264 + 208 * g.w)) ∧ At w0 w' := by
  obtain ⟨x, y, z⟩ := g
  obtain ⟨h1, h2, h3, h4, h5, h6⟩ := hm
  unfold gV
  dsimp only at h1 h2 h3 h4 h5 h6 ⊢
  go_enter Try.func77, Try.ntmps77
  go_wp2_with fail
  go_quiet ((go_at_call 80; exact quiet_left (areas_any _)))
  go_wp2_with fail
  go_ret
  exact ⟨rfl, (h.alloc _).drewN _⟩

set_option maxHeartbeats 1000000 in
theorem rwords_any {w0 w : World} (g : G) (h : At w0 w) :
    Calls Try.prog 55 #[gV g] w fun e w' => e = .returned (.int .i64 (wordsV g)) ∧ At w0 w' := by
  by_cases hm : mayP g
  · have HV := Lib.hid (show wordsV g = atN g 7 from if_pos hm)
    have Hmb := Lib.hid (mayB_true.2 hm)
    have hb := hm
    obtain ⟨g1, g2, g3, g4, g5, g6⟩ := hb
    unfold gV
    go_enter Try.func55, Try.ntmps55
    go_wp2_with fail
    refine (rmay_any g (h.alloc _).self).mono ?_
    rintro e w1 ⟨rfl, k1⟩
    have b1 := (Box.new w g _).at k1
    have h1 := (h.alloc _).trans k1
    rw [Hmb.out]
    clear k1 h
    have hc0 := b1.c0
    have hc1 := b1.c1
    have hc2 := b1.c2
    go_wp2_with fail
    have HB := Lib.hid hm
    clear hm
    go_region_held3 (fun w' => w'.cell? ⟨w.heap.size, 0, none⟩ = some (.int .i64 g.w) ∧ w'.cell? ⟨w.heap.size, 1, none⟩ = some (.int .i64 g.i) ∧ w'.cell? ⟨w.heap.size, 2, none⟩ = some (.int .i64 g.b) ∧ At w0 w')
      (first | (exact ⟨hc0, hc1, hc2, h1.drew⟩) | (go_split_ands; exact ⟨(k.b.cell (p := ⟨w.heap.size, 0, none⟩) (cell_lt (by assumption)).1).trans (by assumption), (k.b.cell (p := ⟨w.heap.size, 1, none⟩) (cell_lt (by assumption)).1).trans (by assumption), (k.b.cell (p := ⟨w.heap.size, 2, none⟩) (cell_lt (by assumption)).1).trans (by assumption), At.trans (by assumption) k⟩))
      ((go_at_call 77; refine (maps_any g HB.out (At.self (w0 := w0) (by go_split_ands; assumption))).mono ?_; rintro e w2 ⟨rfl, k⟩))
    obtain ⟨hd0, hd1, hd2, h3⟩ : w2.cell? ⟨w.heap.size, 0, none⟩ = some (.int .i64 g.w) ∧ w2.cell? ⟨w.heap.size, 1, none⟩ = some (.int .i64 g.i) ∧ w2.cell? ⟨w.heap.size, 2, none⟩ = some (.int .i64 g.b) ∧ At w0 w2 := by assumption
    clear hd0 hd1 hd2 k
    go_wp2_with fail
    go_ret
    exact ⟨ret_int (by rw [HV.out]; simp only [IntKind.wrap_i64, atN]; omega), h3⟩
  · have HV := Lib.hid (show wordsV g = 0 from if_neg hm)
    have Hmb := Lib.hid (mayB_false.2 hm)
    clear hm
    unfold gV
    go_enter Try.func55, Try.ntmps55
    go_wp2_with fail
    refine (rmay_any g (h.alloc _)).mono ?_
    rintro e w1 ⟨rfl, h1⟩
    rw [Hmb.out]
    go_wp2_with fail
    go_ret
    exact ⟨by rw [HV.out]; rfl, h1⟩

set_option maxHeartbeats 400000 in
theorem rsession_at (i : Int) (w : World) :
    Calls Try.prog 114 #[.int .i64 i] w fun e w' => e = .returned (.int .i64 (sessV i)) ∧ w = w' := by
  by_cases h1 : 0 ≤ i <;> by_cases h2 : i < 4
  · have HV := Lib.hid (show sessV i = 8 + 64 * i from if_pos (by omega))
    go_enter Try.func114, Try.ntmps114
    go_wp2_with fail
    go_ret
    exact ⟨by rw [HV.out]; rfl, rfl⟩
  all_goals
    have HV := Lib.hid (show sessV i = -1 from if_neg (by omega))
    go_enter Try.func114, Try.ntmps114
    go_wp2_with fail
    go_ret
    exact ⟨by rw [HV.out]; rfl, rfl⟩

set_option maxHeartbeats 1000000 in
theorem rslot_at (i k : Int) (w : World) :
    Calls Try.prog 112 #[.int .i64 i, .int .i64 k] w fun e w' => e = .returned (.int .i64 (partV i k 4 8 12)) ∧ w = w' := by
  have hb := sess_bd i
  by_cases hs : sessV i < 0
  · have HV := Lib.hid (show partV i k 4 8 12 = -1 from if_pos (.inl hs))
    have hd : decide (sessV i < 0) = true := by simpa using hs
    clear hb
    go_enter Try.func112, Try.ntmps112
    go_wp2_with fail
    refine (rsession_at i _).mono ?_
    rintro e _ ⟨rfl, rfl⟩
    go_wp2_with fail
    go_ret
    exact ⟨by rw [HV.out]; rfl, rfl⟩
  · have hd : decide (sessV i < 0) = false := by simpa using hs
    have hb' : 8 ≤ sessV i ∧ sessV i ≤ 200 := by omega
    clear hb
    by_cases h1 : 0 ≤ k <;> by_cases h2 : k < 4
    · have HV := Lib.hid (show partV i k 4 8 12 = sessV i + 8 + 12 * k from if_neg (by omega))
      go_enter Try.func112, Try.ntmps112
      go_wp2_with fail
      refine (rsession_at i _).mono ?_
      rintro e _ ⟨rfl, rfl⟩
      go_wp2_with fail
      refine (rsession_at i _).mono ?_
      rintro e _ ⟨rfl, rfl⟩
      go_wp2_with fail
      go_ret
      exact ⟨ret_int (by rw [HV.out] <;> omega), rfl⟩
    all_goals
      have HV := Lib.hid (show partV i k 4 8 12 = -1 from if_pos (by omega))
      go_enter Try.func112, Try.ntmps112
      go_wp2_with fail
      refine (rsession_at i _).mono ?_
      rintro e _ ⟨rfl, rfl⟩
      go_wp2_with fail
      go_ret
      exact ⟨by rw [HV.out]; rfl, rfl⟩

set_option maxHeartbeats 1000000 in
theorem rdescriptor_at (i k : Int) (w : World) :
    Calls Try.prog 113 #[.int .i64 i, .int .i64 k] w fun e w' => e = .returned (.int .i64 (partV i k 4 56 2)) ∧ w = w' := by
  have hb := sess_bd i
  by_cases hs : sessV i < 0
  · have HV := Lib.hid (show partV i k 4 56 2 = -1 from if_pos (.inl hs))
    have hd : decide (sessV i < 0) = true := by simpa using hs
    clear hb
    go_enter Try.func113, Try.ntmps113
    go_wp2_with fail
    refine (rsession_at i _).mono ?_
    rintro e _ ⟨rfl, rfl⟩
    go_wp2_with fail
    go_ret
    exact ⟨by rw [HV.out]; rfl, rfl⟩
  · have hd : decide (sessV i < 0) = false := by simpa using hs
    have hb' : 8 ≤ sessV i ∧ sessV i ≤ 200 := by omega
    clear hb
    by_cases h1 : 0 ≤ k <;> by_cases h2 : k < 4
    · have HV := Lib.hid (show partV i k 4 56 2 = sessV i + 56 + 2 * k from if_neg (by omega))
      go_enter Try.func113, Try.ntmps113
      go_wp2_with fail
      refine (rsession_at i _).mono ?_
      rintro e _ ⟨rfl, rfl⟩
      go_wp2_with fail
      refine (rsession_at i _).mono ?_
      rintro e _ ⟨rfl, rfl⟩
      go_wp2_with fail
      go_ret
      exact ⟨ret_int (by rw [HV.out] <;> omega), rfl⟩
    all_goals
      have HV := Lib.hid (show partV i k 4 56 2 = -1 from if_pos (by omega))
      go_enter Try.func113, Try.ntmps113
      go_wp2_with fail
      refine (rsession_at i _).mono ?_
      rintro e _ ⟨rfl, rfl⟩
      go_wp2_with fail
      go_ret
      exact ⟨by rw [HV.out]; rfl, rfl⟩

set_option maxHeartbeats 1000000 in
theorem rarea_at {w0 w : World} (g : G) (i : Int) (h : At w0 w) :
    Calls Try.prog 57 #[gV g, .int .i64 i] w fun e w' => e = .returned (.int .i64 (placeV g 2 i)) ∧ At w0 w' := by
  by_cases hm : mayP g
  · have Hmb := Lib.hid (mayB_true.2 hm)
    have HM := Lib.hid hm
    obtain ⟨g1, g2, g3, g4, g5, g6⟩ := hm
    by_cases e1 : 0 ≤ i <;> by_cases e2 : i < g.w
    · have HV := Lib.hid (show placeV g 2 i = atN g 2 + sizeN 2 * i from if_pos ⟨HM.out, e1, by simp only [manyN]; omega⟩)
      unfold gV
      go_enter Try.func57, Try.ntmps57
      go_wp2_with fail
      refine (rmay_any g (h.alloc _).self).mono ?_
      rintro e w1 ⟨rfl, k1⟩
      have b1 := (Box.new w g _).at k1
      have h1 := (h.alloc _).trans k1
      rw [Hmb.out]
      clear k1 h
      have hc0 := b1.c0
      have hc1 := b1.c1
      have hc2 := b1.c2
      go_wp2_with fail
      refine (areas_any _).mono ?_
      rintro e _ ⟨rfl, rfl⟩
      go_wp2_with fail
      go_ret
      exact ⟨ret_int (by rw [HV.out]; simp only [atN, sizeN]), h1⟩
    all_goals
      have HV := Lib.hid (show placeV g 2 i = -1 from if_neg (by simp only [manyN]; omega))
      unfold gV
      go_enter Try.func57, Try.ntmps57
      go_wp2_with fail
      refine (rmay_any g (h.alloc _).self).mono ?_
      rintro e w1 ⟨rfl, k1⟩
      have b1 := (Box.new w g _).at k1
      have h1 := (h.alloc _).trans k1
      rw [Hmb.out]
      clear k1 h
      have hc0 := b1.c0
      have hc1 := b1.c1
      have hc2 := b1.c2
      go_wp2_with fail
      go_ret
      exact ⟨by rw [HV.out]; rfl, h1⟩
  · have HV := Lib.hid (show placeV g 2 i = -1 from if_neg (fun hh => hm hh.1))
    have Hmb := Lib.hid (mayB_false.2 hm)
    clear hm
    unfold gV
    go_enter Try.func57, Try.ntmps57
    go_wp2_with fail
    refine (rmay_any g (h.alloc _)).mono ?_
    rintro e w1 ⟨rfl, h1⟩
    rw [Hmb.out]
    go_wp2_with fail
    go_ret
    exact ⟨by rw [HV.out]; rfl, h1⟩

set_option maxHeartbeats 1000000 in
theorem rinode_at {w0 w : World} (g : G) (i : Int) (h : At w0 w) :
    Calls Try.prog 116 #[gV g, .int .i64 i] w fun e w' => e = .returned (.int .i64 (placeV g 5 i)) ∧ At w0 w' := by
  by_cases hm : mayP g
  · have Hmb := Lib.hid (mayB_true.2 hm)
    have HM := Lib.hid hm
    obtain ⟨g1, g2, g3, g4, g5, g6⟩ := hm
    by_cases e1 : 0 ≤ i <;> by_cases e2 : i < g.i
    · have HV := Lib.hid (show placeV g 5 i = atN g 5 + sizeN 5 * i from if_pos ⟨HM.out, e1, by simp only [manyN]; omega⟩)
      unfold gV
      go_enter Try.func116, Try.ntmps116
      go_wp2_with fail
      refine (rmay_any g (h.alloc _).self).mono ?_
      rintro e w1 ⟨rfl, k1⟩
      have b1 := (Box.new w g _).at k1
      have h1 := (h.alloc _).trans k1
      rw [Hmb.out]
      clear k1 h
      have hc0 := b1.c0
      have hc1 := b1.c1
      have hc2 := b1.c2
      go_wp2_with fail
      refine (maps_any g HM.out h1.self).mono ?_
      rintro e w2 ⟨rfl, k2⟩
      have h2 := h1.trans k2
      clear hc0 hc1 hc2
      go_wp2_with fail
      go_ret
      exact ⟨ret_int (by rw [HV.out]; simp only [atN, sizeN]; omega), h2⟩
    all_goals
      have HV := Lib.hid (show placeV g 5 i = -1 from if_neg (by simp only [manyN]; omega))
      unfold gV
      go_enter Try.func116, Try.ntmps116
      go_wp2_with fail
      refine (rmay_any g (h.alloc _).self).mono ?_
      rintro e w1 ⟨rfl, k1⟩
      have b1 := (Box.new w g _).at k1
      have h1 := (h.alloc _).trans k1
      rw [Hmb.out]
      clear k1 h
      have hc0 := b1.c0
      have hc1 := b1.c1
      have hc2 := b1.c2
      go_wp2_with fail
      go_ret
      exact ⟨by rw [HV.out]; rfl, h1⟩
  · have HV := Lib.hid (show placeV g 5 i = -1 from if_neg (fun hh => hm hh.1))
    have Hmb := Lib.hid (mayB_false.2 hm)
    clear hm
    unfold gV
    go_enter Try.func116, Try.ntmps116
    go_wp2_with fail
    refine (rmay_any g (h.alloc _)).mono ?_
    rintro e w1 ⟨rfl, h1⟩
    rw [Hmb.out]
    go_wp2_with fail
    go_ret
    exact ⟨by rw [HV.out]; rfl, h1⟩

set_option maxHeartbeats 1000000 in
theorem rinodemap_at {w0 w : World} (g : G) (h : At w0 w) :
    Calls Try.prog 115 #[gV g] w fun e w' => e = .returned (.int .i64 (placeV g 3 0)) ∧ At w0 w' := by
  by_cases hm : mayP g
  · have Hmb := Lib.hid (mayB_true.2 hm)
    have HM := Lib.hid hm
    obtain ⟨g1, g2, g3, g4, g5, g6⟩ := hm
    have HV := Lib.hid (show placeV g 3 0 = atN g 3 + sizeN 3 * 0 from if_pos ⟨HM.out, by decide, by simp only [manyN]; decide⟩)
    unfold gV
    go_enter Try.func115, Try.ntmps115
    go_wp2_with fail
    refine (rmay_any g (h.alloc _).self).mono ?_
    rintro e w1 ⟨rfl, k1⟩
    have b1 := (Box.new w g _).at k1
    have h1 := (h.alloc _).trans k1
    rw [Hmb.out]
    clear k1 h
    have hc0 := b1.c0
    have hc1 := b1.c1
    have hc2 := b1.c2
    go_wp2_with fail
    refine (maps_any g HM.out h1.self).mono ?_
    rintro e w2 ⟨rfl, k2⟩
    have h2 := h1.trans k2
    clear hc0 hc1 hc2
    go_wp2_with fail
    go_ret
    exact ⟨ret_int (by rw [HV.out]; simp only [atN, sizeN]; omega), h2⟩
  · have HV := Lib.hid (show placeV g 3 0 = -1 from if_neg (fun hh => hm hh.1))
    have Hmb := Lib.hid (mayB_false.2 hm)
    clear hm
    unfold gV
    go_enter Try.func115, Try.ntmps115
    go_wp2_with fail
    refine (rmay_any g (h.alloc _)).mono ?_
    rintro e w1 ⟨rfl, h1⟩
    rw [Hmb.out]
    go_wp2_with fail
    go_ret
    exact ⟨by rw [HV.out]; rfl, h1⟩

set_option maxHeartbeats 1000000 in
theorem rblock_at {w0 w : World} (g : G) (i : Int) (h : At w0 w) :
    Calls Try.prog 117 #[gV g, .int .i64 i] w fun e w' => e = .returned (.int .i64 (placeV g 6 i)) ∧ At w0 w' := by
  by_cases hm : mayP g
  · have Hmb := Lib.hid (mayB_true.2 hm)
    have HM := Lib.hid hm
    obtain ⟨g1, g2, g3, g4, g5, g6⟩ := hm
    by_cases e1 : 0 ≤ i <;> by_cases e2 : i < g.b
    · have HV := Lib.hid (show placeV g 6 i = atN g 6 + sizeN 6 * i from if_pos ⟨HM.out, e1, by simp only [manyN]; omega⟩)
      unfold gV
      go_enter Try.func117, Try.ntmps117
      go_wp2_with fail
      refine (rmay_any g (h.alloc _).self).mono ?_
      rintro e w1 ⟨rfl, k1⟩
      have b1 := (Box.new w g _).at k1
      have h1 := (h.alloc _).trans k1
      rw [Hmb.out]
      clear k1 h
      have hc0 := b1.c0
      have hc1 := b1.c1
      have hc2 := b1.c2
      go_wp2_with fail
      go_region_held3 (fun w' => w'.cell? ⟨w.heap.size, 0, none⟩ = some (.int .i64 g.w) ∧ w'.cell? ⟨w.heap.size, 1, none⟩ = some (.int .i64 g.i) ∧ w'.cell? ⟨w.heap.size, 2, none⟩ = some (.int .i64 g.b) ∧ At w0 w')
        (first | (exact ⟨hc0, hc1, hc2, h1.drew⟩) | (go_split_ands; exact ⟨(k.b.cell (p := ⟨w.heap.size, 0, none⟩) (cell_lt (by assumption)).1).trans (by assumption), (k.b.cell (p := ⟨w.heap.size, 1, none⟩) (cell_lt (by assumption)).1).trans (by assumption), (k.b.cell (p := ⟨w.heap.size, 2, none⟩) (cell_lt (by assumption)).1).trans (by assumption), At.trans (by assumption) k⟩))
        ((go_at_call 77; refine (maps_any g HM.out (At.self (w0 := w0) (by go_split_ands; assumption))).mono ?_; rintro e w2 ⟨rfl, k⟩))
      obtain ⟨hd0, hd1, hd2, h3⟩ : w2.cell? ⟨w.heap.size, 0, none⟩ = some (.int .i64 g.w) ∧ w2.cell? ⟨w.heap.size, 1, none⟩ = some (.int .i64 g.i) ∧ w2.cell? ⟨w.heap.size, 2, none⟩ = some (.int .i64 g.b) ∧ At w0 w2 := by assumption
      clear hd0 hd1 hd2 k
      go_wp2_with fail
      go_ret
      exact ⟨ret_int (by rw [HV.out]; simp only [IntKind.wrap_i64, atN, sizeN]; omega), h3⟩
    all_goals
      have HV := Lib.hid (show placeV g 6 i = -1 from if_neg (by simp only [manyN]; omega))
      unfold gV
      go_enter Try.func117, Try.ntmps117
      go_wp2_with fail
      refine (rmay_any g (h.alloc _).self).mono ?_
      rintro e w1 ⟨rfl, k1⟩
      have b1 := (Box.new w g _).at k1
      have h1 := (h.alloc _).trans k1
      rw [Hmb.out]
      clear k1 h
      have hc0 := b1.c0
      have hc1 := b1.c1
      have hc2 := b1.c2
      go_wp2_with fail
      go_ret
      exact ⟨by rw [HV.out]; rfl, h1⟩
  · have HV := Lib.hid (show placeV g 6 i = -1 from if_neg (fun hh => hm hh.1))
    have Hmb := Lib.hid (mayB_false.2 hm)
    clear hm
    unfold gV
    go_enter Try.func117, Try.ntmps117
    go_wp2_with fail
    refine (rmay_any g (h.alloc _)).mono ?_
    rintro e w1 ⟨rfl, h1⟩
    rw [Hmb.out]
    go_wp2_with fail
    go_ret
    exact ⟨by rw [HV.out]; rfl, h1⟩

end Go.Proofs.Ytkopfnldgnkkoaa
