import Derived.Test.YtkopfnldgnkkoaaGreatLyE
import Derived.Deep.RegionHeld3

/-
  THE WALKS OF grommetref04's functions but Where and Format.
-/
namespace Go.Proofs.YtkopfnldgnkkoaaGreat
open Go.RowKit

theorem sess_bd (i : Int) : (sessV i < 0 ∧ sessV i = -1) ∨ (8 ≤ sessV i ∧ sessV i ≤ 200) := by
  unfold sessV; split
  · right; omega
  · left; omega

theorem ret_int {k : IntKind} {a b : Int} (h : a = b) : Ending.returned (.int k a) = .returned (.int k b) := by rw [h]

set_option maxHeartbeats 1000000 in
theorem rmay_any {w0 w : World} (g : G) (h : At w0 w) :
    Calls Tryz.prog 47 #[gV g] w fun e w' => e = .returned (.bool (mayB g)) ∧ At w0 w' := by
  obtain ⟨x, y, z⟩ := g
  unfold gV
  dsimp only
  have hm : mayB ⟨x, y, z⟩ = (decide (1 ≤ x) && decide (x ≤ 4) && decide (2 ≤ y) && decide (y ≤ 64) && decide (2 ≤ z) && decide (z ≤ 512)) := by
    rw [Bool.eq_iff_iff, mayB_true]; simp only [mayP, Bool.and_eq_true, decide_eq_true_eq]; omega
  have HM := Lib.hid hm
  clear hm
  by_cases h1 : 1 ≤ x <;> by_cases h2 : x ≤ 4 <;> by_cases h3 : 2 ≤ y <;> by_cases h4 : y ≤ 64 <;> by_cases h5 : 2 ≤ z <;> by_cases h6 : z ≤ 512
  all_goals first | (exfalso; omega) | skip
  all_goals
    go_enter Tryz.func47, Tryz.ntmps47
    go_wp2_with fail
    go_ret
    exact ⟨by rw [HM.out]; simp [h1, h2, h3, h4, h5, h6], h.alloc _⟩

set_option maxHeartbeats 400000 in
theorem areas_any (w : World) :
    Calls Tryz.prog 90 #[] w fun e w' => e = .returned (.int .i64 264) ∧ w = w' := by
  go_enter Tryz.func90, Tryz.ntmps90
  go_wp2_with fail
  go_ret
  exact ⟨rfl, rfl⟩

set_option maxHeartbeats 400000 in
theorem maps_any {w0 w : World} (g : G) (hm : mayP g) (h : At w0 w) :
    Calls Tryz.prog 89 #[gV g] w fun e w' => e = .returned (.int .i64 (264 + 208 * g.w)) ∧ At w0 w' := by
  obtain ⟨x, y, z⟩ := g
  obtain ⟨h1, h2, h3, h4, h5, h6⟩ := hm
  unfold gV
  dsimp only at h1 h2 h3 h4 h5 h6 ⊢
  go_enter Tryz.func89, Tryz.ntmps89
  go_wp2_with fail
  go_quiet ((go_at_call 90; exact quiet_left (areas_any _)))
  go_wp2_with fail
  go_ret
  exact ⟨rfl, (h.alloc _).drewN _⟩

set_option maxHeartbeats 1000000 in
theorem rwords_any {w0 w : World} (g : G) (h : At w0 w) :
    Calls Tryz.prog 48 #[gV g] w fun e w' => e = .returned (.int .i64 (wordsV g)) ∧ At w0 w' := by
  by_cases hm : mayP g
  · have HV := Lib.hid (show wordsV g = atN g 7 from if_pos hm)
    have Hmb := Lib.hid (mayB_true.2 hm)
    have hb := hm
    obtain ⟨g1, g2, g3, g4, g5, g6⟩ := hb
    unfold gV
    go_enter Tryz.func48, Tryz.ntmps48
    go_wp2_with fail
    refine (rmay_any g (h.alloc _).self).mono ?_
    rintro e w1 ⟨rfl, k1⟩
    have b1 := (Box.new w g _).at k1
    have h1 := (h.alloc _).trans k1
    rw [Hmb.out]
    clear k1 h
    have hc0 := b1.c0
    have hc1 := b1.c1
    have hc2 := b1.c2
    go_wp2_with fail
    have HB := Lib.hid hm
    clear hm
    go_region_held3 (fun w' => w'.cell? ⟨w.heap.size, 0, none⟩ = some (.int .i64 g.w) ∧ w'.cell? ⟨w.heap.size, 1, none⟩ = some (.int .i64 g.i) ∧ w'.cell? ⟨w.heap.size, 2, none⟩ = some (.int .i64 g.b) ∧ At w0 w')
      (first | (exact ⟨hc0, hc1, hc2, h1.drew⟩) | (go_split_ands; exact ⟨(k.b.cell (p := ⟨w.heap.size, 0, none⟩) (cell_lt (by assumption)).1).trans (by assumption), (k.b.cell (p := ⟨w.heap.size, 1, none⟩) (cell_lt (by assumption)).1).trans (by assumption), (k.b.cell (p := ⟨w.heap.size, 2, none⟩) (cell_lt (by assumption)).1).trans (by assumption), At.trans (by assumption) k⟩))
      ((go_at_call 89; refine (maps_any g HB.out (At.self (w0 := w0) (by go_split_ands; assumption))).mono ?_; rintro e w2 ⟨rfl, k⟩))
    obtain ⟨hd0, hd1, hd2, h3⟩ : w2.cell? ⟨w.heap.size, 0, none⟩ = some (.int .i64 g.w) ∧ w2.cell? ⟨w.heap.size, 1, none⟩ = some (.int .i64 g.i) ∧ w2.cell? ⟨w.heap.size, 2, none⟩ = some (.int .i64 g.b) ∧ At w0 w2 := by assumption
    clear hd0 hd1 hd2 k
    go_wp2_with fail
    go_ret
    exact ⟨ret_int (by rw [HV.out]; simp only [IntKind.wrap_i64, atN]; omega), h3⟩
  · have HV := Lib.hid (show wordsV g = 0 from if_neg hm)
    have Hmb := Lib.hid (mayB_false.2 hm)
    clear hm
    unfold gV
    go_enter Tryz.func48, Tryz.ntmps48
    go_wp2_with fail
    refine (rmay_any g (h.alloc _)).mono ?_
    rintro e w1 ⟨rfl, h1⟩
    rw [Hmb.out]
    go_wp2_with fail
    go_ret
    exact ⟨by rw [HV.out]; rfl, h1⟩

set_option maxHeartbeats 400000 in
theorem rsession_at (i : Int) (w : World) :
    Calls Tryz.prog 120 #[.int .i64 i] w fun e w' => e = .returned (.int .i64 (sessV i)) ∧ w = w' := by
  by_cases h1 : 0 ≤ i <;> by_cases h2 : i < 4
  · have HV := Lib.hid (show sessV i = 8 + 64 * i from if_pos (by omega))
    go_enter Tryz.func120, Tryz.ntmps120
    go_wp2_with fail
    go_ret
    exact ⟨by rw [HV.out]; rfl, rfl⟩
  all_goals
    have HV := Lib.hid (show sessV i = -1 from if_neg (by omega))
    go_enter Tryz.func120, Tryz.ntmps120
    go_wp2_with fail
    go_ret
    exact ⟨by rw [HV.out]; rfl, rfl⟩

set_option maxHeartbeats 1000000 in
theorem rslot_at (i k : Int) (w : World) :
    Calls Tryz.prog 118 #[.int .i64 i, .int .i64 k] w fun e w' => e = .returned (.int .i64 (partV i k 4 8 12)) ∧ w = w' := by
  have hb := sess_bd i
  by_cases hs : sessV i < 0
  · have HV := Lib.hid (show partV i k 4 8 12 = -1 from if_pos (.inl hs))
    have hd : decide (sessV i < 0) = true := by simpa using hs
    clear hb
    go_enter Tryz.func118, Tryz.ntmps118
    go_wp2_with fail
    refine (rsession_at i _).mono ?_
    rintro e _ ⟨rfl, rfl⟩
    go_wp2_with fail
    go_ret
    exact ⟨by rw [HV.out]; rfl, rfl⟩
  · have hd : decide (sessV i < 0) = false := by simpa using hs
    have hb' : 8 ≤ sessV i ∧ sessV i ≤ 200 := by omega
    clear hb
    by_cases h1 : 0 ≤ k <;> by_cases h2 : k < 4
    · have HV := Lib.hid (show partV i k 4 8 12 = sessV i + 8 + 12 * k from if_neg (by omega))
      go_enter Tryz.func118, Tryz.ntmps118
      go_wp2_with fail
      refine (rsession_at i _).mono ?_
      rintro e _ ⟨rfl, rfl⟩
      go_wp2_with fail
      refine (rsession_at i _).mono ?_
      rintro e _ ⟨rfl, rfl⟩
      go_wp2_with fail
      go_ret
      exact ⟨ret_int (by rw [HV.out] <;> omega), rfl⟩
    all_goals
      have HV := Lib.hid (show partV i k 4 8 12 = -1 from if_pos (by omega))
      go_enter Tryz.func118, Tryz.ntmps118
      go_wp2_with fail
      refine (rsession_at i _).mono ?_
      rintro e _ ⟨rfl, rfl⟩
      go_wp2_with fail
      go_ret
      exact ⟨by rw [HV.out]; rfl, rfl⟩

set_option maxHeartbeats 1000000 in
theorem rdescriptor_at (i k : Int) (w : World) :
    Calls Tryz.prog 119 #[.int .i64 i, .int .i64 k] w fun e w' => e = .returned (.int .i64 (partV i k 4 56 2)) ∧ w = w' := by
  have hb := sess_bd i
  by_cases hs : sessV i < 0
  · have HV := Lib.hid (show partV i k 4 56 2 = -1 from if_pos (.inl hs))
    have hd : decide (sessV i < 0) = true := by simpa using hs
    clear hb
    go_enter Tryz.func119, Tryz.ntmps119
    go_wp2_with fail
    refine (rsession_at i _).mono ?_
    rintro e _ ⟨rfl, rfl⟩
    go_wp2_with fail
    go_ret
    exact ⟨by rw [HV.out]; rfl, rfl⟩
  · have hd : decide (sessV i < 0) = false := by simpa using hs
    have hb' : 8 ≤ sessV i ∧ sessV i ≤ 200 := by omega
    clear hb
    by_cases h1 : 0 ≤ k <;> by_cases h2 : k < 4
    · have HV := Lib.hid (show partV i k 4 56 2 = sessV i + 56 + 2 * k from if_neg (by omega))
      go_enter Tryz.func119, Tryz.ntmps119
      go_wp2_with fail
      refine (rsession_at i _).mono ?_
      rintro e _ ⟨rfl, rfl⟩
      go_wp2_with fail
      refine (rsession_at i _).mono ?_
      rintro e _ ⟨rfl, rfl⟩
      go_wp2_with fail
      go_ret
      exact ⟨ret_int (by rw [HV.out] <;> omega), rfl⟩
    all_goals
      have HV := Lib.hid (show partV i k 4 56 2 = -1 from if_pos (by omega))
      go_enter Tryz.func119, Tryz.ntmps119
      go_wp2_with fail
      refine (rsession_at i _).mono ?_
      rintro e _ ⟨rfl, rfl⟩
      go_wp2_with fail
      go_ret
      exact ⟨by rw [HV.out]; rfl, rfl⟩

set_option maxHeartbeats 1000000 in
theorem rarea_at {w0 w : World} (g : G) (i : Int) (h : At w0 w) :
    Calls Tryz.prog 52 #[gV g, .int .i64 i] w fun e w' => e = .returned (.int .i64 (placeV g 2 i)) ∧ At w0 w' := by
  by_cases hm : mayP g
  · have Hmb := Lib.hid (mayB_true.2 hm)
    have HM := Lib.hid hm
    obtain ⟨g1, g2, g3, g4, g5, g6⟩ := hm
    by_cases e1 : 0 ≤ i <;> by_cases e2 : i < g.w
    · have HV := Lib.hid (show placeV g 2 i = atN g 2 + sizeN 2 * i from if_pos ⟨HM.out, e1, by simp only [manyN]; omega⟩)
      unfold gV
      go_enter Tryz.func52, Tryz.ntmps52
      go_wp2_with fail
      refine (rmay_any g (h.alloc _).self).mono ?_
      rintro e w1 ⟨rfl, k1⟩
      have b1 := (Box.new w g _).at k1
      have h1 := (h.alloc _).trans k1
      rw [Hmb.out]
      clear k1 h
      have hc0 := b1.c0
      have hc1 := b1.c1
      have hc2 := b1.c2
      go_wp2_with fail
      refine (areas_any _).mono ?_
      rintro e _ ⟨rfl, rfl⟩
      go_wp2_with fail
      go_ret
      exact ⟨ret_int (by rw [HV.out]; simp only [atN, sizeN]), h1⟩
    all_goals
      have HV := Lib.hid (show placeV g 2 i = -1 from if_neg (by simp only [manyN]; omega))
      unfold gV
      go_enter Tryz.func52, Tryz.ntmps52
      go_wp2_with fail
      refine (rmay_any g (h.alloc _).self).mono ?_
      rintro e w1 ⟨rfl, k1⟩
      have b1 := (Box.new w g _).at k1
      have h1 := (h.alloc _).trans k1
      rw [Hmb.out]
      clear k1 h
      have hc0 := b1.c0
      have hc1 := b1.c1
      have hc2 := b1.c2
      go_wp2_with fail
      go_ret
      exact ⟨by rw [HV.out]; rfl, h1⟩
  · have HV := Lib.hid (show placeV g 2 i = -1 from if_neg (fun hh => hm hh.1))
    have Hmb := Lib.hid (mayB_false.2 hm)
    clear hm
    unfold gV
    go_enter Tryz.func52, Tryz.ntmps52
    go_wp2_with fail
    refine (rmay_any g (h.alloc _)).mono ?_
    rintro e w1 ⟨rfl, h1⟩
    rw [Hmb.out]
    go_wp2_with fail
    go_ret
    exact ⟨by rw [HV.out]; rfl, h1⟩

set_option maxHeartbeats 1000000 in
theorem rinode_at {w0 w : World} (g : G) (i : Int) (h : At w0 w) :
    Calls Tryz.prog 51 #[gV g, .int .i64 i] w fun e w' => e = .returned (.int .i64 (placeV g 5 i)) ∧ At w0 w' := by
  by_cases hm : mayP g
  · have Hmb := Lib.hid (mayB_true.2 hm)
    have HM := Lib.hid hm
    obtain ⟨g1, g2, g3, g4, g5, g6⟩ := hm
    by_cases e1 : 0 ≤ i <;> by_cases e2 : i < g.i
    · have HV := Lib.hid (show placeV g 5 i = atN g 5 + sizeN 5 * i from if_pos ⟨HM.out, e1, by simp only [manyN]; omega⟩)
      unfold gV
      go_enter Tryz.func51, Tryz.ntmps51
      go_wp2_with fail
      refine (rmay_any g (h.alloc _).self).mono ?_
      rintro e w1 ⟨rfl, k1⟩
      have b1 := (Box.new w g _).at k1
      have h1 := (h.alloc _).trans k1
      rw [Hmb.out]
      clear k1 h
      have hc0 := b1.c0
      have hc1 := b1.c1
      have hc2 := b1.c2
      go_wp2_with fail
      refine (maps_any g HM.out h1.self).mono ?_
      rintro e w2 ⟨rfl, k2⟩
      have h2 := h1.trans k2
      clear hc0 hc1 hc2
      go_wp2_with fail
      go_ret
      exact ⟨ret_int (by rw [HV.out]; simp only [atN, sizeN]; omega), h2⟩
    all_goals
      have HV := Lib.hid (show placeV g 5 i = -1 from if_neg (by simp only [manyN]; omega))
      unfold gV
      go_enter Tryz.func51, Tryz.ntmps51
      go_wp2_with fail
      refine (rmay_any g (h.alloc _).self).mono ?_
      rintro e w1 ⟨rfl, k1⟩
      have b1 := (Box.new w g _).at k1
      have h1 := (h.alloc _).trans k1
      rw [Hmb.out]
      clear k1 h
      have hc0 := b1.c0
      have hc1 := b1.c1
      have hc2 := b1.c2
      go_wp2_with fail
      go_ret
      exact ⟨by rw [HV.out]; rfl, h1⟩
  · have HV := Lib.hid (show placeV g 5 i = -1 from if_neg (fun hh => hm hh.1))
    have Hmb := Lib.hid (mayB_false.2 hm)
    clear hm
    unfold gV
    go_enter Tryz.func51, Tryz.ntmps51
    go_wp2_with fail
    refine (rmay_any g (h.alloc _)).mono ?_
    rintro e w1 ⟨rfl, h1⟩
    rw [Hmb.out]
    go_wp2_with fail
    go_ret
    exact ⟨by rw [HV.out]; rfl, h1⟩

set_option maxHeartbeats 1000000 in
theorem rinodemap_at {w0 w : World} (g : G) (h : At w0 w) :
    Calls Tryz.prog 49 #[gV g] w fun e w' => e = .returned (.int .i64 (placeV g 3 0)) ∧ At w0 w' := by
  by_cases hm : mayP g
  · have Hmb := Lib.hid (mayB_true.2 hm)
    have HM := Lib.hid hm
    obtain ⟨g1, g2, g3, g4, g5, g6⟩ := hm
    have HV := Lib.hid (show placeV g 3 0 = atN g 3 + sizeN 3 * 0 from if_pos ⟨HM.out, by decide, by simp only [manyN]; decide⟩)
    unfold gV
    go_enter Tryz.func49, Tryz.ntmps49
    go_wp2_with fail
    refine (rmay_any g (h.alloc _).self).mono ?_
    rintro e w1 ⟨rfl, k1⟩
    have b1 := (Box.new w g _).at k1
    have h1 := (h.alloc _).trans k1
    rw [Hmb.out]
    clear k1 h
    have hc0 := b1.c0
    have hc1 := b1.c1
    have hc2 := b1.c2
    go_wp2_with fail
    refine (maps_any g HM.out h1.self).mono ?_
    rintro e w2 ⟨rfl, k2⟩
    have h2 := h1.trans k2
    clear hc0 hc1 hc2
    go_wp2_with fail
    go_ret
    exact ⟨ret_int (by rw [HV.out]; simp only [atN, sizeN]; omega), h2⟩
  · have HV := Lib.hid (show placeV g 3 0 = -1 from if_neg (fun hh => hm hh.1))
    have Hmb := Lib.hid (mayB_false.2 hm)
    clear hm
    unfold gV
    go_enter Tryz.func49, Tryz.ntmps49
    go_wp2_with fail
    refine (rmay_any g (h.alloc _)).mono ?_
    rintro e w1 ⟨rfl, h1⟩
    rw [Hmb.out]
    go_wp2_with fail
    go_ret
    exact ⟨by rw [HV.out]; rfl, h1⟩

set_option maxHeartbeats 1000000 in
theorem rblock_at {w0 w : World} (g : G) (i : Int) (h : At w0 w) :
    Calls Tryz.prog 121 #[gV g, .int .i64 i] w fun e w' => e = .returned (.int .i64 (placeV g 6 i)) ∧ At w0 w' := by
  by_cases hm : mayP g
  · have Hmb := Lib.hid (mayB_true.2 hm)
    have HM := Lib.hid hm
    obtain ⟨g1, g2, g3, g4, g5, g6⟩ := hm
    by_cases e1 : 0 ≤ i <;> by_cases e2 : i < g.b
    · have HV := Lib.hid (show placeV g 6 i = atN g 6 + sizeN 6 * i from if_pos ⟨HM.out, e1, by simp only [manyN]; omega⟩)
      unfold gV
      go_enter Tryz.func121, Tryz.ntmps121
      go_wp2_with fail
      refine (rmay_any g (h.alloc _).self).mono ?_
      rintro e w1 ⟨rfl, k1⟩
      have b1 := (Box.new w g _).at k1
      have h1 := (h.alloc _).trans k1
      rw [Hmb.out]
      clear k1 h
      have hc0 := b1.c0
      have hc1 := b1.c1
      have hc2 := b1.c2
      go_wp2_with fail
      go_region_held3 (fun w' => w'.cell? ⟨w.heap.size, 0, none⟩ = some (.int .i64 g.w) ∧ w'.cell? ⟨w.heap.size, 1, none⟩ = some (.int .i64 g.i) ∧ w'.cell? ⟨w.heap.size, 2, none⟩ = some (.int .i64 g.b) ∧ At w0 w')
        (first | (exact ⟨hc0, hc1, hc2, h1.drew⟩) | (go_split_ands; exact ⟨(k.b.cell (p := ⟨w.heap.size, 0, none⟩) (cell_lt (by assumption)).1).trans (by assumption), (k.b.cell (p := ⟨w.heap.size, 1, none⟩) (cell_lt (by assumption)).1).trans (by assumption), (k.b.cell (p := ⟨w.heap.size, 2, none⟩) (cell_lt (by assumption)).1).trans (by assumption), At.trans (by assumption) k⟩))
        ((go_at_call 89; refine (maps_any g HM.out (At.self (w0 := w0) (by go_split_ands; assumption))).mono ?_; rintro e w2 ⟨rfl, k⟩))
      obtain ⟨hd0, hd1, hd2, h3⟩ : w2.cell? ⟨w.heap.size, 0, none⟩ = some (.int .i64 g.w) ∧ w2.cell? ⟨w.heap.size, 1, none⟩ = some (.int .i64 g.i) ∧ w2.cell? ⟨w.heap.size, 2, none⟩ = some (.int .i64 g.b) ∧ At w0 w2 := by assumption
      clear hd0 hd1 hd2 k
      go_wp2_with fail
      go_ret
      exact ⟨ret_int (by rw [HV.out]; simp only [IntKind.wrap_i64, atN, sizeN]; omega), h3⟩
    all_goals
      have HV := Lib.hid (show placeV g 6 i = -1 from if_neg (by simp only [manyN]; omega))
      unfold gV
      go_enter Tryz.func121, Tryz.ntmps121
      go_wp2_with fail
      refine (rmay_any g (h.alloc _).self).mono ?_
      rintro e w1 ⟨rfl, k1⟩
      have b1 := (Box.new w g _).at k1
      have h1 := (h.alloc _).trans k1
      rw [Hmb.out]
      clear k1 h
      have hc0 := b1.c0
      have hc1 := b1.c1
      have hc2 := b1.c2
      go_wp2_with fail
      go_ret
      exact ⟨by rw [HV.out]; rfl, h1⟩
  · have HV := Lib.hid (show placeV g 6 i = -1 from if_neg (fun hh => hm hh.1))
    have Hmb := Lib.hid (mayB_false.2 hm)
    clear hm
    unfold gV
    go_enter Tryz.func121, Tryz.ntmps121
    go_wp2_with fail
    refine (rmay_any g (h.alloc _)).mono ?_
    rintro e w1 ⟨rfl, h1⟩
    rw [Hmb.out]
    go_wp2_with fail
    go_ret
    exact ⟨by rw [HV.out]; rfl, h1⟩

end Go.Proofs.YtkopfnldgnkkoaaGreat

/-
  THE WALK OF grommetref04.Where, by looking at all places.
-/
namespace Go.Proofs.YtkopfnldgnkkoaaGreat
open Go.RowKit

theorem part_in {i m : Int} {many fr sz : Int} (h0 : 0 ≤ i) (h1 : i ≤ 3) (h2 : 0 ≤ m) (h3 : m ≤ many - 1) : partV i m many fr sz = fr + 8 + 64 * i + sz * m := by
  have hs : sessV i = 8 + 64 * i := if_pos ⟨h0, h1⟩
  unfold partV
  rw [hs, if_neg (by omega)]
  omega
theorem four_eq {k : IntKind} {a b c d : Int} {x : Int × Int × Int × Int} (h : x = (a, b, c, d)) (v : Value) (hv : v = .tuple #[.int k a, .int .i64 b, .int .i64 c, .int .i64 d]) : Ending.returned v = .returned (four k x) := by rw [hv, h]; rfl
theorem ref_sess0 {x : Int} {i : Nat} (h1 : 8 + 64 * (i : Int) ≤ x) (h2 : x < 16 + 64 * (i : Int)) : inSessV ((x - 8) / 64) ((x - 8) % 64) = (2, (i : Int), 0, x - (8 + 64 * (i : Int))) := by
  have e1 : (x - 8) / 64 = i := by omega
  have e2 : (x - 8) % 64 = x - (8 + 64 * i) := by omega
  rw [e1, e2]; unfold inSessV; rw [if_pos (by omega)]
theorem ref_sess1 {x : Int} {i m : Nat} (h1 : 16 + 64 * (i : Int) + 12 * (m : Int) ≤ x) (h2 : x < 16 + 64 * (i : Int) + 12 * ((m : Int) + 1)) (h3 : (m : Int) ≤ 3) : inSessV ((x - 8) / 64) ((x - 8) % 64) = (3, (i : Int), (m : Int), x - (8 + 8 + 64 * (i : Int) + 12 * (m : Int))) := by
  have e1 : (x - 8) / 64 = i := by omega
  have e2 : (x - 8) % 64 = x - (8 + 64 * i) := by omega
  rw [e1, e2]; unfold inSessV; rw [if_neg (by omega), if_pos (by omega)]
  congr 3 <;> omega
theorem ref_sess2 {x : Int} {i m : Nat} (h1 : 64 + 64 * (i : Int) + 2 * (m : Int) ≤ x) (h2 : x < 64 + 64 * (i : Int) + 2 * ((m : Int) + 1)) (h3 : (m : Int) ≤ 3) : inSessV ((x - 8) / 64) ((x - 8) % 64) = (4, (i : Int), (m : Int), x - (56 + 8 + 64 * (i : Int) + 2 * (m : Int))) := by
  have e1 : (x - 8) / 64 = i := by omega
  have e2 : (x - 8) % 64 = x - (8 + 64 * i) := by omega
  rw [e1, e2]; unfold inSessV; rw [if_neg (by omega), if_neg (by omega)]
  congr 3 <;> omega

set_option maxRecDepth 100000 in
set_option maxHeartbeats 4000000 in
theorem rwhere_sess {w0 w : World} (g : G) (x : Int) (hm : mayP g) (hx1 : 8 ≤ x) (hx2 : x < 264) (h : At w0 w) :
    Calls Tryz.prog 98 #[gV g, .int .i64 x] w fun e w' => e = .returned (four .i64 (whereV g x)) ∧ At w0 w' := by
  have Hmb := Lib.hid (mayB_true.2 hm)
  have HWd := Lib.hid (show wordsV g = atN g 7 from if_pos hm)
  have hb7 := (at_bd hm 7).2
  have WS := Lib.hid (show whereV g x = inSessV ((x - 8) / 64) ((x - 8) % 64) from where_row hm (n := 1) (by decide) (by omega) (by simpa [atN] using hx1) (by simpa [atN] using hx2))
  have hx7 : x < atN g 7 := by obtain ⟨g1, g2, g3, g4, g5, g6⟩ := hm; simp only [atN]; omega
  clear hm
  unfold gV
  go_enter Tryz.func98, Tryz.ntmps98
  go_wp2_with fail
  refine (rmay_any g (h.alloc _).self).mono ?_
  rintro e w1 ⟨rfl, k1⟩
  have b1 := (Box.new w g _).at k1
  have h1 := (h.alloc _).trans k1
  rw [Hmb.out]
  clear k1 h
  have hc0 := b1.c0
  have hc1 := b1.c1
  have hc2 := b1.c2
  go_wp2_with fail
  refine (rwords_any g h1.self).mono ?_
  rintro e w2 ⟨rfl, k2⟩
  have b2 := b1.at k2
  have h2 := h1.trans k2
  rw [HWd.out]
  clear k2 hc0 hc1 hc2 b1 h1
  go_wp2_with fail
  go_loop [8] (fun j => ∃ i : Nat, i ≤ 4 ∧ 8 + 64 * (i : Int) ≤ x ∧ j = .int .i64 i) (fun j => 4 - (intOf j).toNat)
  case atStart => exact ⟨0, by omega, by omega, rfl⟩
  case round =>
    obtain ⟨i, hi, hxi, rfl⟩ := hrel
    by_cases hi4 : i < 4
    · have HS := Lib.hid (show sessV (i : Int) = 8 + 64 * (i : Int) from if_pos (by omega))
      by_cases hp : 8 + 64 * ((i : Int) + 1) ≤ x
      · go_wp2_with fail
        go_loop [9] (fun k => ∃ m : Nat, (m ≤ 4) ∧ k = .int .i64 m) (fun k => 4 - (intOf k).toNat)
        case atStart => exact ⟨0, by omega, rfl⟩
        case round =>
          obtain ⟨m, hm4, rfl⟩ := hrel
          by_cases hlt : m < 4
          · have HP := Lib.hid (show partV (i : Int) (m : Int) 4 8 12 = 16 + 64 * (i : Int) + 12 * (m : Int) from part_in (by omega) (by omega) (by omega) (by omega))
            go_wp2_with fail
            refine (rslot_at _ _ _).mono ?_
            rintro e _ ⟨rfl, rfl⟩
            rw [HP.out]
            clear HP
            go_wp2_with fail
            go_round
            case rel => exact ⟨m + 1, by omega, by go_num⟩
            case measure => simp [intOf]; omega
          · obtain rfl : m = 4 := by omega
            go_wp2_with fail
            go_loop [11] (fun k => ∃ m : Nat, (m ≤ 4) ∧ k = .int .i64 m) (fun k => 4 - (intOf k).toNat)
            case atStart => exact ⟨0, by omega, rfl⟩
            case round =>
              obtain ⟨m, hm4, rfl⟩ := hrel
              by_cases hlt : m < 4
              · have HP := Lib.hid (show partV (i : Int) (m : Int) 4 56 2 = 64 + 64 * (i : Int) + 2 * (m : Int) from part_in (by omega) (by omega) (by omega) (by omega))
                go_wp2_with fail
                refine (rdescriptor_at _ _ _).mono ?_
                rintro e _ ⟨rfl, rfl⟩
                rw [HP.out]
                clear HP
                go_wp2_with fail
                go_round
                case rel => exact ⟨m + 1, by omega, by go_num⟩
                case measure => simp [intOf]; omega
              · obtain rfl : m = 4 := by omega
                go_wp2_with fail
                refine (rsession_at _ _).mono ?_
                rintro e _ ⟨rfl, rfl⟩
                rw [HS.out]
                go_wp2_with fail
                go_round
                case rel => exact ⟨i + 1, by omega, by omega, by go_num⟩
                case measure => simp [intOf]; omega
      · by_cases hr0 : x < 16 + 64 * (i : Int)
        · go_wp2_with fail
          go_loop [9] (fun k => ∃ m : Nat, (m ≤ 4) ∧ k = .int .i64 m) (fun k => 4 - (intOf k).toNat)
          case atStart => exact ⟨0, by omega, rfl⟩
          case round =>
            obtain ⟨m, hm4, rfl⟩ := hrel
            by_cases hlt : m < 4
            · have HP := Lib.hid (show partV (i : Int) (m : Int) 4 8 12 = 16 + 64 * (i : Int) + 12 * (m : Int) from part_in (by omega) (by omega) (by omega) (by omega))
              go_wp2_with fail
              refine (rslot_at _ _ _).mono ?_
              rintro e _ ⟨rfl, rfl⟩
              rw [HP.out]
              clear HP
              go_wp2_with fail
              go_round
              case rel => exact ⟨m + 1, by omega, by go_num⟩
              case measure => simp [intOf]; omega
            · obtain rfl : m = 4 := by omega
              go_wp2_with fail
              go_loop [11] (fun k => ∃ m : Nat, (m ≤ 4) ∧ k = .int .i64 m) (fun k => 4 - (intOf k).toNat)
              case atStart => exact ⟨0, by omega, rfl⟩
              case round =>
                obtain ⟨m, hm4, rfl⟩ := hrel
                by_cases hlt : m < 4
                · have HP := Lib.hid (show partV (i : Int) (m : Int) 4 56 2 = 64 + 64 * (i : Int) + 2 * (m : Int) from part_in (by omega) (by omega) (by omega) (by omega))
                  go_wp2_with fail
                  refine (rdescriptor_at _ _ _).mono ?_
                  rintro e _ ⟨rfl, rfl⟩
                  rw [HP.out]
                  clear HP
                  go_wp2_with fail
                  go_round
                  case rel => exact ⟨m + 1, by omega, by go_num⟩
                  case measure => simp [intOf]; omega
                · obtain rfl : m = 4 := by omega
                  go_wp2_with fail
                  refine (rsession_at _ _).mono ?_
                  rintro e _ ⟨rfl, rfl⟩
                  rw [HS.out]
                  go_wp2_with fail
                  refine bodyPost_ret (results_tmp4 rfl _ _ _) rfl ?_
                  exact ⟨four_eq (by rw [WS.out]; exact ref_sess0 (by omega) (by omega)) _ rfl, h2⟩
        · by_cases hr1 : x < 64 + 64 * (i : Int)
          · go_wp2_with fail
            go_loop [9] (fun k => ∃ m : Nat, (m ≤ 4 ∧ (16 + 64 * i + 12 * m ≤ x)) ∧ k = .int .i64 m) (fun k => 4 - (intOf k).toNat)
            case atStart => exact ⟨0, ⟨by omega, by omega⟩, rfl⟩
            case round =>
              obtain ⟨m, hm4, rfl⟩ := hrel
              by_cases hlt : m < 4
              · have HP := Lib.hid (show partV (i : Int) (m : Int) 4 8 12 = 16 + 64 * (i : Int) + 12 * (m : Int) from part_in (by omega) (by omega) (by omega) (by omega))
                by_cases hk : 16 + 64 * i + 12 * (m + 1) ≤ x
                · go_wp2_with fail
                  refine (rslot_at _ _ _).mono ?_
                  rintro e _ ⟨rfl, rfl⟩
                  rw [HP.out]
                  clear HP
                  go_wp2_with fail
                  go_round
                  case rel => exact ⟨m + 1, ⟨by omega, by omega⟩, by go_num⟩
                  case measure => simp [intOf]; omega
                · go_wp2_with fail
                  refine (rslot_at _ _ _).mono ?_
                  rintro e _ ⟨rfl, rfl⟩
                  rw [HP.out]
                  clear HP
                  go_wp2_with fail
                  refine bodyPost_ret (results_tmp4 rfl _ _ _) rfl ?_
                  exact ⟨four_eq (by rw [WS.out]; exact ref_sess1 (by omega) (by omega) (by omega)) _ rfl, h2⟩
              · obtain rfl : m = 4 := by omega
                exfalso; omega
          · go_wp2_with fail
            go_loop [9] (fun k => ∃ m : Nat, (m ≤ 4) ∧ k = .int .i64 m) (fun k => 4 - (intOf k).toNat)
            case atStart => exact ⟨0, by omega, rfl⟩
            case round =>
              obtain ⟨m, hm4, rfl⟩ := hrel
              by_cases hlt : m < 4
              · have HP := Lib.hid (show partV (i : Int) (m : Int) 4 8 12 = 16 + 64 * (i : Int) + 12 * (m : Int) from part_in (by omega) (by omega) (by omega) (by omega))
                go_wp2_with fail
                refine (rslot_at _ _ _).mono ?_
                rintro e _ ⟨rfl, rfl⟩
                rw [HP.out]
                clear HP
                go_wp2_with fail
                go_round
                case rel => exact ⟨m + 1, by omega, by go_num⟩
                case measure => simp [intOf]; omega
              · obtain rfl : m = 4 := by omega
                go_wp2_with fail
                go_loop [11] (fun k => ∃ m : Nat, (m ≤ 4 ∧ (64 + 64 * i + 2 * m ≤ x)) ∧ k = .int .i64 m) (fun k => 4 - (intOf k).toNat)
                case atStart => exact ⟨0, ⟨by omega, by omega⟩, rfl⟩
                case round =>
                  obtain ⟨m, hm4, rfl⟩ := hrel
                  by_cases hlt : m < 4
                  · have HP := Lib.hid (show partV (i : Int) (m : Int) 4 56 2 = 64 + 64 * (i : Int) + 2 * (m : Int) from part_in (by omega) (by omega) (by omega) (by omega))
                    by_cases hk : 64 + 64 * i + 2 * (m + 1) ≤ x
                    · go_wp2_with fail
                      refine (rdescriptor_at _ _ _).mono ?_
                      rintro e _ ⟨rfl, rfl⟩
                      rw [HP.out]
                      clear HP
                      go_wp2_with fail
                      go_round
                      case rel => exact ⟨m + 1, ⟨by omega, by omega⟩, by go_num⟩
                      case measure => simp [intOf]; omega
                    · go_wp2_with fail
                      refine (rdescriptor_at _ _ _).mono ?_
                      rintro e _ ⟨rfl, rfl⟩
                      rw [HP.out]
                      clear HP
                      go_wp2_with fail
                      refine bodyPost_ret (results_tmp4 rfl _ _ _) rfl ?_
                      exact ⟨four_eq (by rw [WS.out]; exact ref_sess2 (by omega) (by omega) (by omega)) _ rfl, h2⟩
                  · obtain rfl : m = 4 := by omega
                    exfalso; omega
    · exfalso; omega

end Go.Proofs.YtkopfnldgnkkoaaGreat

/-
  THE WALK OF grommetref04.Where: the rest of the device; and any word.
-/
namespace Go.Proofs.YtkopfnldgnkkoaaGreat
open Go.RowKit

set_option maxRecDepth 100000 in
set_option maxHeartbeats 4000000 in
theorem rwhere_super {w0 w : World} (g : G) (x : Int) (hm : mayP g) (hx0 : 0 ≤ x) (hx1 : x < 8) (h : At w0 w) :
    Calls Tryz.prog 98 #[gV g, .int .i64 x] w fun e w' => e = .returned (four .i64 (whereV g x)) ∧ At w0 w' := by
  have Hmb := Lib.hid (mayB_true.2 hm)
  have HWd := Lib.hid (show wordsV g = atN g 7 from if_pos hm)
  have hb7 := (at_bd hm 7).2
  have HV := Lib.hid (where_row hm (n := 0) (by decide) hx0 (by simpa [atN] using hx0) (by simpa [atN] using hx1))
  have hx7 : x < atN g 7 := by obtain ⟨g1, g2, g3, g4, g5, g6⟩ := hm; simp only [atN]; omega
  clear hm
  unfold gV
  go_enter Tryz.func98, Tryz.ntmps98
  go_wp2_with fail
  refine (rmay_any g (h.alloc _).self).mono ?_
  rintro e w1 ⟨rfl, k1⟩
  have b1 := (Box.new w g _).at k1
  have h1 := (h.alloc _).trans k1
  rw [Hmb.out]
  clear k1 h
  have hc0 := b1.c0
  have hc1 := b1.c1
  have hc2 := b1.c2
  go_wp2_with fail
  refine (rwords_any g h1.self).mono ?_
  rintro e w2 ⟨rfl, k2⟩
  have b2 := b1.at k2
  have h2 := h1.trans k2
  rw [HWd.out]
  clear k2 hc0 hc1 hc2 b1 h1
  go_wp2_with fail
  refine bodyPost_ret (results_tmp4 rfl _ _ _) rfl ?_
  exact ⟨four_eq (by rw [HV.out]; simp only [atN, kindN, sizeN]; rw [if_neg (by decide)]; congr 3 <;> omega) _ rfl, h2⟩

theorem row2 {g : G} (hm : mayP g) {x : Int} {m : Nat} (hmw : (m : Int) < g.w) (h1 : 264 + 208 * (m : Int) ≤ x) (h2 : x < 264 + 208 * ((m : Int) + 1)) : whereV g x = (5, (m : Int), 0, x - (264 + 208 * (m : Int))) := by
  rw [where_row hm (n := 2) (by decide) (by omega) (by simp only [atN]; omega) (by simp only [atN]; omega), if_neg (by decide)]
  simp only [atN, kindN, sizeN]
  have e1 : (x - 264) / 208 = m := by omega
  have e2 : (x - 264) % 208 = x - (264 + 208 * m) := by omega
  rw [e1, e2]
theorem row3 {g : G} (hm : mayP g) {x : Int} (h1 : 264 + 208 * g.w ≤ x) (h2 : x < 272 + 208 * g.w) : whereV g x = (6, 0, 0, x - (264 + 208 * g.w)) := by
  rw [where_row hm (n := 3) (by decide) (by have := hm.1; omega) (by simp only [atN]; omega) (by simp only [atN]; omega), if_neg (by decide)]
  simp only [atN, kindN, sizeN]
  congr 3 <;> omega
theorem row4 {g : G} (hm : mayP g) {x : Int} (h1 : 272 + 208 * g.w ≤ x) (h2 : x < 280 + 208 * g.w) : whereV g x = (7, 0, 0, x - (264 + 208 * g.w) - 8) := by
  rw [where_row hm (n := 4) (by decide) (by have := hm.1; omega) (by simp only [atN]; omega) (by simp only [atN]; omega), if_neg (by decide)]
  simp only [atN, kindN, sizeN]
  congr 3 <;> omega
theorem row5 {g : G} (hm : mayP g) {x : Int} (h1 : 280 + 208 * g.w ≤ x) (h2 : x < 280 + 208 * g.w + 16 * g.i) : whereV g x = (8, (x - (280 + 208 * g.w)) / 16, 0, (x - (280 + 208 * g.w)) % 16) := by
  rw [where_row hm (n := 5) (by decide) (by have := hm.1; omega) (by simp only [atN]; omega) (by simp only [atN]; omega), if_neg (by decide)]
  simp only [atN, kindN, sizeN]
theorem row6 {g : G} (hm : mayP g) {x : Int} (h1 : 280 + 208 * g.w + 16 * g.i ≤ x) (h2 : x < 280 + 208 * g.w + 16 * g.i + 8 * g.b) : whereV g x = (9, (x - (280 + 208 * g.w + 16 * g.i)) / 8, 0, (x - (280 + 208 * g.w + 16 * g.i)) % 8) := by
  rw [where_row hm (n := 6) (by decide) (by have := hm.1; have := hm.2.2.1; omega) (by simp only [atN]; omega) (by simp only [atN]; omega), if_neg (by decide)]
  simp only [atN, kindN, sizeN]

set_option maxRecDepth 100000 in
set_option maxHeartbeats 4000000 in
theorem rwhere_rest {w0 w : World} (g : G) (x : Int) (hm : mayP g) (hx1 : 264 ≤ x) (hx7 : x < atN g 7) (h : At w0 w) :
    Calls Tryz.prog 98 #[gV g, .int .i64 x] w fun e w' => e = .returned (four .i64 (whereV g x)) ∧ At w0 w' := by
  have Hmb := Lib.hid (mayB_true.2 hm)
  have HWd := Lib.hid (show wordsV g = atN g 7 from if_pos hm)
  have hb7 := (at_bd hm 7).2
  have HM := Lib.hid hm
  obtain ⟨g1, g2, g3, g4, g5, g6⟩ := hm
  unfold gV
  go_enter Tryz.func98, Tryz.ntmps98
  go_wp2_with fail
  refine (rmay_any g (h.alloc _).self).mono ?_
  rintro e w1 ⟨rfl, k1⟩
  have b1 := (Box.new w g _).at k1
  have h1 := (h.alloc _).trans k1
  rw [Hmb.out]
  clear k1 h
  have hc0 := b1.c0
  have hc1 := b1.c1
  have hc2 := b1.c2
  go_wp2_with fail
  refine (rwords_any g h1.self).mono ?_
  rintro e w2 ⟨rfl, k2⟩
  have b2 := b1.at k2
  have h2 := h1.trans k2
  rw [HWd.out]
  clear k2 hc0 hc1 hc2 b1 h1
  go_wp2_with fail
  go_loop [8] (fun j => ∃ i : Nat, i ≤ 4 ∧ 8 + 64 * (i : Int) ≤ x ∧ j = .int .i64 i) (fun j => 4 - (intOf j).toNat)
  case atStart => exact ⟨0, by omega, by omega, rfl⟩
  case round =>
    obtain ⟨i, hi, hxi, rfl⟩ := hrel
    by_cases hi4 : i < 4
    · have HS := Lib.hid (show sessV (i : Int) = 8 + 64 * (i : Int) from if_pos (by omega))
      go_wp2_with fail
      go_loop [9] (fun k => ∃ m : Nat, (m ≤ 4) ∧ k = .int .i64 m) (fun k => 4 - (intOf k).toNat)
      case atStart => exact ⟨0, by omega, rfl⟩
      case round =>
        obtain ⟨m, hm4, rfl⟩ := hrel
        by_cases hlt : m < 4
        · have HP := Lib.hid (show partV (i : Int) (m : Int) 4 8 12 = 16 + 64 * (i : Int) + 12 * (m : Int) from part_in (by omega) (by omega) (by omega) (by omega))
          go_wp2_with fail
          refine (rslot_at _ _ _).mono ?_
          rintro e _ ⟨rfl, rfl⟩
          rw [HP.out]
          clear HP
          go_wp2_with fail
          go_round
          case rel => exact ⟨m + 1, by omega, by go_num⟩
          case measure => simp [intOf]; omega
        · obtain rfl : m = 4 := by omega
          go_wp2_with fail
          go_loop [11] (fun k => ∃ m : Nat, (m ≤ 4) ∧ k = .int .i64 m) (fun k => 4 - (intOf k).toNat)
          case atStart => exact ⟨0, by omega, rfl⟩
          case round =>
            obtain ⟨m, hm4, rfl⟩ := hrel
            by_cases hlt : m < 4
            · have HP := Lib.hid (show partV (i : Int) (m : Int) 4 56 2 = 64 + 64 * (i : Int) + 2 * (m : Int) from part_in (by omega) (by omega) (by omega) (by omega))
              go_wp2_with fail
              refine (rdescriptor_at _ _ _).mono ?_
              rintro e _ ⟨rfl, rfl⟩
              rw [HP.out]
              clear HP
              go_wp2_with fail
              go_round
              case rel => exact ⟨m + 1, by omega, by go_num⟩
              case measure => simp [intOf]; omega
            · obtain rfl : m = 4 := by omega
              go_wp2_with fail
              refine (rsession_at _ _).mono ?_
              rintro e _ ⟨rfl, rfl⟩
              rw [HS.out]
              go_wp2_with fail
              go_round
              case rel => exact ⟨i + 1, by omega, by omega, by go_num⟩
              case measure => simp [intOf]; omega
    · obtain rfl : i = 4 := by omega
      have hd0 := b2.c0
      have hd1 := b2.c1
      have hd2 := b2.c2
      have B2 := Lib.hid b2
      go_wp2_with fail
      clear hd0 hd1 hd2
      go_loopw [14] (fun j wr => ∃ m : Nat, (m : Int) ≤ g.w ∧ 264 + 208 * (m : Int) ≤ x ∧ j = .int .i64 m ∧ At w0 wr ∧ Box wr w.heap.size g) (fun j _ => 4 - (intOf j).toNat)
      case atStart => exact ⟨0, by omega, by omega, rfl, h2, B2.out⟩
      case round =>
        clear h2 B2 b2
        obtain ⟨m, hmw, hxm, rfl, h3, b3⟩ := hrel
        have hd0 := b3.c0
        have hd1 := b3.c1
        have hd2 := b3.c2
        by_cases hlt : (m : Int) < g.w
        · have HP := Lib.hid (show placeV g 2 (m : Int) = 264 + 208 * (m : Int) from if_pos ⟨HM.out, by omega, by simp only [manyN]; omega⟩)
          go_wp2_with fail
          refine (rarea_at g (m : Int) h3.self).mono ?_
          rintro e w4 ⟨rfl, k4⟩
          have b4 := b3.at k4
          have h4 := h3.trans k4
          rw [HP.out]
          clear k4 b3 h3 HP hd0 hd1 hd2
          by_cases hin : x < 264 + 208 * ((m : Int) + 1)
          · have HR := Lib.hid (row2 HM.out hlt hxm hin)
            go_wp2_with fail
            refine bodyPost_ret (results_tmp4 rfl _ _ _) rfl ?_
            exact ⟨four_eq HR.out _ rfl, h4⟩
          · go_wp2_with fail
            go_roundw
            case rel => exact ⟨m + 1, by omega, by omega, by go_num, h4, b4⟩
            case measure => simp [intOf]; omega
        · have hmm : (m : Int) = g.w := by omega
          have hx8 : 264 + 208 * g.w ≤ x := by omega
          have HP3 := Lib.hid (show placeV g 3 0 = 264 + 208 * g.w from (if_pos ⟨HM.out, by decide, by simp only [manyN]; decide⟩ : placeV g 3 0 = atN g 3 + sizeN 3 * 0).trans (by simp only [atN, sizeN]; omega))
          have HP5 := Lib.hid (show placeV g 5 0 = 280 + 208 * g.w from (if_pos ⟨HM.out, by decide, by simp only [manyN]; omega⟩ : placeV g 5 0 = atN g 5 + sizeN 5 * 0).trans (by simp only [atN, sizeN]; omega))
          have HP6 := Lib.hid (show placeV g 6 0 = 280 + 208 * g.w + 16 * g.i from (if_pos ⟨HM.out, by decide, by simp only [manyN]; omega⟩ : placeV g 6 0 = atN g 6 + sizeN 6 * 0).trans (by simp only [atN, sizeN]; omega))
          clear hmm
          go_wp2_with fail
          refine (rinodemap_at g h3.self).mono ?_
          rintro e w4 ⟨rfl, k4⟩
          have b4 := b3.at k4
          have h4 := h3.trans k4
          rw [HP3.out]
          clear k4 b3 h3 hd0 hd1 hd2
          have hd0 := b4.c0
          have hd1 := b4.c1
          have hd2 := b4.c2
          by_cases c3 : x < 272 + 208 * g.w
          · have HR := Lib.hid (row3 HM.out hx8 c3)
            go_wp2_with fail
            refine bodyPost_ret (results_tmp4 rfl _ _ _) rfl ?_
            exact ⟨four_eq HR.out _ rfl, h4⟩
          by_cases c4 : x < 280 + 208 * g.w
          · have HR := Lib.hid (row4 HM.out (by omega) c4)
            go_wp2_with fail
            refine bodyPost_ret (results_tmp4 rfl _ _ _) rfl ?_
            exact ⟨four_eq HR.out _ rfl, h4⟩
          go_wp2_with fail
          refine (rinode_at g 0 h4.self).mono ?_
          rintro e w5 ⟨rfl, k5⟩
          have b5 := b4.at k5
          have h5 := h4.trans k5
          rw [HP5.out]
          clear k5 b4 h4 hd0 hd1 hd2
          have hd0 := b5.c0
          have hd1 := b5.c1
          have hd2 := b5.c2
          by_cases c5 : x < 280 + 208 * g.w + 16 * g.i
          · have HR := Lib.hid (row5 HM.out (by omega) c5)
            go_wp2_with fail
            refine bodyPost_ret (results_tmp4 rfl _ _ _) rfl ?_
            exact ⟨four_eq HR.out _ rfl, h5⟩
          have HR := Lib.hid (row6 HM.out (x := x) (by omega) (by simpa [atN] using hx7))
          have hx9 : x < 280 + 208 * g.w + 16 * g.i + 8 * g.b := by simpa [atN] using hx7
          go_wp2_with fail
          refine (rblock_at g 0 h5.self).mono ?_
          rintro e w6 ⟨rfl, k6⟩
          have h6 := h5.trans k6
          rw [HP6.out]
          clear k6 b5 h5 hd0 hd1 hd2
          go_wp2_with fail
          refine bodyPost_ret (results_tmp4 rfl _ _ _) rfl ?_
          exact ⟨four_eq HR.out _ rfl, h6⟩

set_option maxHeartbeats 1000000 in
theorem rwhere_none {w0 w : World} (g : G) (x : Int) (hn : ¬ mayP g ∨ x < 0 ∨ atN g 7 ≤ x) (h : At w0 w) :
    Calls Tryz.prog 98 #[gV g, .int .i64 x] w fun e w' => e = .returned (four .i64 (whereV g x)) ∧ At w0 w' := by
  have HV := Lib.hid (where_none hn)
  by_cases hm : mayP g
  · have Hmb := Lib.hid (mayB_true.2 hm)
    have HWd := Lib.hid (show wordsV g = atN g 7 from if_pos hm)
    have h7 := (at_bd hm 7).1
    by_cases hx : x < 0
    · clear hm hn
      unfold gV
      go_enter Tryz.func98, Tryz.ntmps98
      go_wp2_with fail
      refine (rmay_any g (h.alloc _)).mono ?_
      rintro e w1 ⟨rfl, h1⟩
      rw [Hmb.out]
      go_wp2_with fail
      refine bodyPost_ret (results_tmp4 rfl _ _ _) rfl ?_
      exact ⟨four_eq HV.out _ rfl, h1⟩
    · have hx7 : atN g 7 ≤ x := by rcases hn with hh | hh | hh; exact absurd hm hh; exact absurd hh hx; exact hh
      clear hm hn
      unfold gV
      go_enter Tryz.func98, Tryz.ntmps98
      go_wp2_with fail
      refine (rmay_any g (h.alloc _).self).mono ?_
      rintro e w1 ⟨rfl, k1⟩
      have b1 := (Box.new w g _).at k1
      have h1 := (h.alloc _).trans k1
      rw [Hmb.out]
      clear k1 h
      have hc0 := b1.c0
      have hc1 := b1.c1
      have hc2 := b1.c2
      go_wp2_with fail
      refine (rwords_any g h1.self).mono ?_
      rintro e w2 ⟨rfl, k2⟩
      have b2 := b1.at k2
      have h2 := h1.trans k2
      rw [HWd.out]
      clear k2 hc0 hc1 hc2 b1 h1
      go_wp2_with fail
      refine bodyPost_ret (results_tmp4 rfl _ _ _) rfl ?_
      exact ⟨four_eq HV.out _ rfl, h2⟩
  · have Hmb := Lib.hid (mayB_false.2 hm)
    clear hm hn
    unfold gV
    go_enter Tryz.func98, Tryz.ntmps98
    go_wp2_with fail
    refine (rmay_any g (h.alloc _)).mono ?_
    rintro e w1 ⟨rfl, h1⟩
    rw [Hmb.out]
    go_wp2_with fail
    refine bodyPost_ret (results_tmp4 rfl _ _ _) rfl ?_
    exact ⟨four_eq HV.out _ rfl, h1⟩

theorem rwhere_any {w0 w : World} (g : G) (x : Int) (h : At w0 w) :
    Calls Tryz.prog 98 #[gV g, .int .i64 x] w fun e w' => e = .returned (four .i64 (whereV g x)) ∧ At w0 w' := by
  by_cases hm : mayP g
  · by_cases h0 : x < 0
    · exact rwhere_none g x (.inr (.inl h0)) h
    · by_cases h7 : x < atN g 7
      · by_cases h1 : x < 8
        · exact rwhere_super g x hm (by omega) h1 h
        · by_cases h2 : x < 264
          · exact rwhere_sess g x hm (by omega) h2 h
          · exact rwhere_rest g x hm (by omega) h7 h
      · exact rwhere_none g x (.inr (.inr (by omega))) h
  · exact rwhere_none g x (.inl hm) h

end Go.Proofs.YtkopfnldgnkkoaaGreat
