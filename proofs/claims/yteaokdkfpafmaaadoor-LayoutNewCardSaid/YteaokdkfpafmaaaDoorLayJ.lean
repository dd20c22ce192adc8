/-
  THE WALKS OF grommetlaw04.works, LayoutPlays, LayoutWhere.
-/
import Derived.Test.YteaokdkfpafmaaaDoorLayI
import Derived.Test.YteaokdkfpafmaaaDoorLayG
namespace Go.Proofs.YteaokdkfpafmaaaDoor
open Go.RowKit

theorem where_kind (g : G) (x : Int) : (0 : Int) ≤ (whereV g x).1 ∧ (whereV g x).1 ≤ 9 := by
  unfold whereV
  split
  · decide
  · dsimp only
    split
    · unfold inSessV; split
      · exact ⟨by show (0 : Int) ≤ 2; decide, by show (2 : Int) ≤ 9; decide⟩
      · split
        · exact ⟨by show (0 : Int) ≤ 3; decide, by show (3 : Int) ≤ 9; decide⟩
        · exact ⟨by show (0 : Int) ≤ 4; decide, by show (4 : Int) ≤ 9; decide⟩
    · generalize rowOf g x = n
      match n with
      | 0 | 1 | 2 | 3 | 4 | 5 | n + 6 => simp [kindN]
theorem may_least : mayB least = true := by decide
theorem words_least : wordsV least = 536 := by decide
theorem words_zero : wordsV ⟨0, 0, 0⟩ = 0 := by decide
theorem place_least0 : placeV least 2 0 = 264 := by decide
theorem place_least1 : placeV least 2 1 = -1 := by decide
theorem part_least : partV 0 1 4 8 12 = 28 := by decide
theorem len_least : (atN least 7).toNat = 536 := by decide

set_option maxRecDepth 100000 in
set_option maxHeartbeats 2000000 in
theorem works_any {w0 w : World} (h : At w0 w) :
    Calls Tryd.prog 30 #[] w fun e w' => e = .returned (.bool true) ∧ At w0 w' := by
  have M := Lib.hid may_least
  have W1 := Lib.hid words_least
  have W0 := Lib.hid words_zero
  have P0 := Lib.hid place_least0
  have P1 := Lib.hid place_least1
  have S1 := Lib.hid part_least
  have L1 := Lib.hid len_least
  go_enter Tryd.func30, Tryd.ntmps30
  go_wp2_with fail
  have b1 := Box.new w least 23
  have h1 := h.alloc (.cells #[.int .i64 least.w, .int .i64 least.i, .int .i64 least.b] 23)
  refine (may_any least h1.self).mono ?_
  rintro e w2 ⟨rfl, k⟩
  rw [M.out]
  have b2 := b1.at k
  have h2 := h1.trans k
  clear k b1 h1
  have c0 := b2.c0
  have c1 := b2.c1
  have c2 := b2.c2
  go_wp2_with fail
  refine (words_any least h2.self).mono ?_
  rintro e w3 ⟨rfl, k⟩
  rw [W1.out]
  have b3 := b2.at k
  have h3 := h2.trans k
  clear k b2 h2 c0 c1 c2
  have c0 := b3.c0
  have c1 := b3.c1
  have c2 := b3.c2
  go_wp2_with fail
  refine (slot_at 0 1 h3.self).mono ?_
  rintro e w4 ⟨rfl, k⟩
  rw [S1.out]
  have b4 := b3.at k
  have h4 := h3.trans k
  clear k b3 h3 c0 c1 c2
  have c0 := b4.c0
  have c1 := b4.c1
  have c2 := b4.c2
  go_wp2_with fail
  refine (area_at least 0 h4.self).mono ?_
  rintro e w5 ⟨rfl, k⟩
  rw [P0.out]
  have b5 := b4.at k
  have h5 := h4.trans k
  clear k b4 h4 c0 c1 c2
  have c0 := b5.c0
  have c1 := b5.c1
  have c2 := b5.c2
  go_wp2_with fail
  refine (words_any ⟨0, 0, 0⟩ h5.self).mono ?_
  rintro e w6 ⟨rfl, k⟩
  rw [W0.out]
  have b6 := b5.at k
  have h6 := h5.trans k
  clear k b5 h5 c0 c1 c2
  have c0 := b6.c0
  have c1 := b6.c1
  have c2 := b6.c2
  go_wp2_with fail
  refine (area_at least 1 h6.self).mono ?_
  rintro e w7 ⟨rfl, k⟩
  rw [P1.out]
  have b7 := b6.at k
  have h7 := h6.trans k
  clear k b6 h6 c0 c1 c2
  have c0 := b7.c0
  have c1 := b7.c1
  have c2 := b7.c2
  go_wp2_with fail
  refine (format_yes least (by decide) h7.self).mono ?_
  rintro e w8 ⟨b, rfl, _, _, k⟩
  rw [L1.out]
  have h8 := h7.trans k
  clear k b7 h7 c0 c1 c2
  go_wp2_with fail
  go_ret
  exact ⟨rfl, h8⟩

set_option maxRecDepth 100000 in
set_option maxHeartbeats 4000000 in
theorem walk_plays (g : G) (i k : Int) (w : World) (hl : Least w) :
    Calls Tryd.prog 3 #[gV g, .int .i64 i, .int .i64 k] w fun e w' => e = .returned (.bool true) ∧ Below w.heap.size w w' := by
  have h := At.refl hl
  unfold gV
  go_enter Tryd.func3, Tryd.ntmps3
  go_wp2_with fail
  have b1 := (Box.new w g 23).alloc (.cells #[.int .i64 g.w, .int .i64 g.i, .int .i64 g.b] 24)
  have d1 := Box.new (w.alloc (.cells #[.int .i64 g.w, .int .i64 g.i, .int .i64 g.b] 23)) g 24
  rw [World.size_alloc] at d1
  have h1 := (h.alloc (.cells #[.int .i64 g.w, .int .i64 g.i, .int .i64 g.b] 23)).alloc (.cells #[.int .i64 g.w, .int .i64 g.i, .int .i64 g.b] 24)
  have c0 := b1.c0
  have c1 := b1.c1
  have c2 := b1.c2
  have e0 := d1.c0
  have e1 := d1.c1
  have e2 := d1.c2
  clear b1 d1
  simp only [List.append_eq, List.cons_append, List.nil_append]
  generalize ((w.alloc (.cells #[.int .i64 g.w, .int .i64 g.i, .int .i64 g.b] 23)).alloc (.cells #[.int .i64 g.w, .int .i64 g.i, .int .i64 g.b] 24)) = w1 at *
  go_region_held3 (fun w' => w'.cell? ⟨w.heap.size, 0, none⟩ = some (.int .i64 g.w) ∧ w'.cell? ⟨w.heap.size, 1, none⟩ = some (.int .i64 g.i) ∧ w'.cell? ⟨w.heap.size, 2, none⟩ = some (.int .i64 g.b) ∧ w'.cell? ⟨w.heap.size + 1, 0, none⟩ = some (.int .i64 g.w) ∧ w'.cell? ⟨w.heap.size + 1, 1, none⟩ = some (.int .i64 g.i) ∧ w'.cell? ⟨w.heap.size + 1, 2, none⟩ = some (.int .i64 g.b) ∧ At w w')
    (first | (exact ⟨c0, c1, c2, e0, e1, e2, h1.drew⟩) | (go_split_ands; exact ⟨by assumption, by assumption, by assumption, by assumption, by assumption, by assumption, by assumption⟩) | (go_split_ands; exact ⟨(k'.b.cell (p := ⟨w.heap.size, 0, none⟩) (cell_lt (by assumption)).1).trans (by assumption), (k'.b.cell (p := ⟨w.heap.size, 1, none⟩) (cell_lt (by assumption)).1).trans (by assumption), (k'.b.cell (p := ⟨w.heap.size, 2, none⟩) (cell_lt (by assumption)).1).trans (by assumption), (k'.b.cell (p := ⟨w.heap.size + 1, 0, none⟩) (cell_lt (by assumption)).1).trans (by assumption), (k'.b.cell (p := ⟨w.heap.size + 1, 1, none⟩) (cell_lt (by assumption)).1).trans (by assumption), (k'.b.cell (p := ⟨w.heap.size + 1, 2, none⟩) (cell_lt (by assumption)).1).trans (by assumption), At.trans (by assumption) k'⟩))
    ((first | (go_at_call 10; refine (may_any g (At.self (w0 := w) (by go_split_ands; assumption))).mono ?_; rintro e w2 ⟨rfl, k'⟩) | (go_at_call 11; refine (rmay_any g (At.self (w0 := w) (by go_split_ands; assumption))).mono ?_; rintro e w2 ⟨rfl, k'⟩) | (go_at_call 12; refine (words_any g (At.self (w0 := w) (by go_split_ands; assumption))).mono ?_; rintro e w2 ⟨rfl, k'⟩) | (go_at_call 13; refine (rwords_any g (At.self (w0 := w) (by go_split_ands; assumption))).mono ?_; rintro e w2 ⟨rfl, k'⟩) | (go_at_call 14; refine (session_at i (At.self (w0 := w) (by go_split_ands; assumption))).mono ?_; rintro e w2 ⟨rfl, k'⟩) | (go_at_call 15; refine (rsession_at i _).mono ?_; rintro e _ ⟨rfl, rfl⟩) | (go_at_call 16; refine (slot_at i k (At.self (w0 := w) (by go_split_ands; assumption))).mono ?_; rintro e w2 ⟨rfl, k'⟩) | (go_at_call 17; refine (rslot_at i k _).mono ?_; rintro e _ ⟨rfl, rfl⟩) | (go_at_call 18; refine (descriptor_at i k (At.self (w0 := w) (by go_split_ands; assumption))).mono ?_; rintro e w2 ⟨rfl, k'⟩) | (go_at_call 19; refine (rdescriptor_at i k _).mono ?_; rintro e _ ⟨rfl, rfl⟩) | (go_at_call 20; refine (area_at g i (At.self (w0 := w) (by go_split_ands; assumption))).mono ?_; rintro e w2 ⟨rfl, k'⟩) | (go_at_call 21; refine (rarea_at g i (At.self (w0 := w) (by go_split_ands; assumption))).mono ?_; rintro e w2 ⟨rfl, k'⟩) | (go_at_call 22; refine (inode_map_at g (At.self (w0 := w) (by go_split_ands; assumption))).mono ?_; rintro e w2 ⟨rfl, k'⟩) | (go_at_call 23; refine (rinodemap_at g (At.self (w0 := w) (by go_split_ands; assumption))).mono ?_; rintro e w2 ⟨rfl, k'⟩) | (go_at_call 24; refine (block_map_at g (At.self (w0 := w) (by go_split_ands; assumption))).mono ?_; rintro e w2 ⟨rfl, k'⟩) | (go_at_call 25; refine (rblockmap_at g (At.self (w0 := w) (by go_split_ands; assumption))).mono ?_; rintro e w2 ⟨rfl, k'⟩) | (go_at_call 26; refine (inode_at g i (At.self (w0 := w) (by go_split_ands; assumption))).mono ?_; rintro e w2 ⟨rfl, k'⟩) | (go_at_call 27; refine (rinode_at g i (At.self (w0 := w) (by go_split_ands; assumption))).mono ?_; rintro e w2 ⟨rfl, k'⟩) | (go_at_call 28; refine (block_at g i (At.self (w0 := w) (by go_split_ands; assumption))).mono ?_; rintro e w2 ⟨rfl, k'⟩) | (go_at_call 29; refine (rblock_at g i (At.self (w0 := w) (by go_split_ands; assumption))).mono ?_; rintro e w2 ⟨rfl, k'⟩) | (go_at_call 30; refine (works_any (At.self (w0 := w) (by go_split_ands; assumption))).mono ?_; rintro e w2 ⟨rfl, k'⟩)))
  obtain ⟨_, _, _, _, _, _, h2⟩ : w2.cell? ⟨w.heap.size, 0, none⟩ = some (.int .i64 g.w) ∧ w2.cell? ⟨w.heap.size, 1, none⟩ = some (.int .i64 g.i) ∧ w2.cell? ⟨w.heap.size, 2, none⟩ = some (.int .i64 g.b) ∧ w2.cell? ⟨w.heap.size + 1, 0, none⟩ = some (.int .i64 g.w) ∧ w2.cell? ⟨w.heap.size + 1, 1, none⟩ = some (.int .i64 g.i) ∧ w2.cell? ⟨w.heap.size + 1, 2, none⟩ = some (.int .i64 g.b) ∧ At w w2 := by assumption
  go_wp2_with fail
  go_ret
  exact ⟨rfl, h2.b⟩

/-- Where, beside the document's answer. -/
theorem four_eql (x : Int × Int × Int × Int) : x = x := rfl
set_option maxRecDepth 100000 in
set_option maxHeartbeats 2000000 in
theorem walk_where (g : G) (x : Int) (hx : x ≤ 9223372036854775807) (w : World) (hl : Least w) :
    Calls Tryd.prog 7 #[gV g, .int .i64 x] w fun e w' => e = .returned (.bool true) ∧ Below w.heap.size w w' := by
  have h := At.refl hl
  obtain ⟨a, b, c, d, hv⟩ : ∃ a b c d, whereV g x = (a, b, c, d) := ⟨_, _, _, _, rfl⟩
  have hk : (0 : Int) ≤ a ∧ a ≤ 9 := by
    have := where_kind g x
    rw [hv] at this
    exact this
  have HV := Lib.hid hv
  clear hv
  unfold gV
  go_enter Tryd.func7, Tryd.ntmps7
  go_wp2_with fail
  refine (where_any g x hx (h.alloc (.cells #[.int .i64 g.w, .int .i64 g.i, .int .i64 g.b] 23)).self).mono ?_
  rintro e w2 ⟨rfl, k'⟩
  have b2 := (Box.new w g 23).at k'
  have h2 := (h.alloc (.cells #[.int .i64 g.w, .int .i64 g.i, .int .i64 g.b] 23)).trans k'
  clear k' h
  rw [HV.out]
  unfold four
  have c0 := b2.c0
  have c1 := b2.c1
  have c2 := b2.c2
  go_wp2_with fail
  refine (rwhere_any g x h2).mono ?_
  rintro e w3 ⟨rfl, h3⟩
  clear c0 c1 c2 b2 h2
  rw [HV.out]
  unfold four
  go_wp2_with fail
  refine (works_any h3).mono ?_
  rintro e w4 ⟨rfl, h4⟩
  go_wp2_with fail
  go_ret
  exact ⟨rfl, h4.b⟩

end Go.Proofs.YteaokdkfpafmaaaDoor
