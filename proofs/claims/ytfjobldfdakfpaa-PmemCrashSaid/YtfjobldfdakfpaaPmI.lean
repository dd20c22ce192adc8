/-
  THE WALK OF works.
-/
import Derived.Test.YtfjobldfdakfpaaPmH
namespace Go.Proofs.Ytfjobldfdakfpaa
open Go.RowKit Go.Shelf
set_option linter.unusedVariables false

theorem Nw.up {w a c : World} {t : Nat} (h : Nw w a) (k : Up t a c) (ht : w.heap.size ≤ t) : Nw w c := ⟨k.below h.b h.b.size ht⟩
def wkL : List Int := [0, 7, 8, 7]
/-- What a call that says yes or no tells. -/
def Yes (v : Bool) (w : World) (e : Ending) (w' : World) : Prop := e = .returned (.bool v) ∧ Nw w w'
set_option maxRecDepth 100000 in
set_option maxHeartbeats 8000000 in
theorem works_any (w : World) : Calls Try.prog 8 #[] w (Yes true w) := by
  obtain ⟨i0, hi, hz0, hz1, hz2⟩ := info_parts8 info_u64
  go_enter Try.func8, Try.ntmps8
  go_wp2_with fail
  go_loopw [2, 1] (fun i v wr => ∃ k : Nat, k ≤ 4 ∧ i = .int .i64 k ∧ Nw w wr ∧ wr.ownsRow w.heap.size 31 1 v k ((wkL.take k).map (.int .u64))) (fun i _ _ => 4 - (intOf i).toNat)
  case atStart => exact ⟨0, by omega, rfl, Nw.refl, rfl, .inl ⟨rfl, rfl⟩⟩
  case round =>
    obtain ⟨k, hk, rfl, hn, how⟩ := hrel
    have hsw := hn.b.size
    have HN := Lib.hid hn
    have HOW := Lib.hid how
    clear hn how
    by_cases hlt : k < 4
    · obtain rfl | rfl | rfl | rfl : k = 0 ∨ k = 1 ∨ k = 2 ∨ k = 3 := by omega
      · go_wp2_with fail
        refine (new_yes _).mono ?_
        rintro e w1 ⟨d, b, rfl, hD, hN, hb, hd⟩
        have HM1 := Lib.hid hN
        have HD1 := Lib.hid hD
        have hds1 := (cell_lt hD.s).1
        have hbs1 := (cell_lt (hD.a.c0 0 (by omega))).1
        dsimp only at hds1 hbs1
        clear hD hN
        go_wp2_with fail
        refine (store_any d b _ 3 (by omega) 7 _ HD1.out).mono ?_
        rintro e w2 ⟨rfl, hD, hu⟩
        have HM2 := Lib.hid (HM1.out.up hu hb)
        have HD2 := Lib.hid hD
        have hds2 := (cell_lt hD.s).1
        have hbs2 := (cell_lt (hD.a.c0 0 (by omega))).1
        dsimp only at hds2 hbs2
        clear hD hu
        go_wp2_with fail
        refine (crash_any d b _ (w2.heap.size + 1) _ 1 1 [0] rfl (by omega) (by omega) (by decide) _ (by simp) (fun p hp => by cases hp; show w2.heap.size ≠ b; omega) (Ints.one .u8 w2 0 _) (HD2.out.nw (Nw.refl.alloc _))).mono ?_
        rintro e w3 ⟨rfl, hD, hu⟩
        have HM3 := Lib.hid ((HM2.out.alloc _).up hu hb)
        have HD3 := Lib.hid hD
        clear hD hu
        go_wp2_with fail
        refine (load_any d b _ 3 (by omega) _ HD3.out).mono ?_
        rintro e w4 ⟨rfl, rfl⟩
        rw [show (gone (crashW [0]) 0 0 (lsL _) _ 3).seen = 0 from by kernel_rfl]
        have how := own_below HM3.out.b HOW.out
        have HN1 := Lib.hid (HN.out.trans HM3.out)
        have hs1 := HN1.out.b.size
        go_wp2_with (at_builtin; refine wpList_append_ints _ rfl (.tmp 48) (.tmp 50) 29 rfl w.heap.size 31 i0 (.int .u64 0) 8 Try.underlying29 hi hz0 hz1 hz2 rfl _ _ _ rfl (how.alloc _) _ 1 1 .u64 [0] _ rfl rfl (Ints.one _ _ _ _) (by unfold maxLen; omega) (by omega) (by simp; omega) ?_; intro v3 w30 hown3 hgrow3; have hb3 : Below w.heap.size w w30 := Below.grownRow (HN1.out.b.alloc hs1 _) hgrow3 (by simp; omega) (how.alloc _) (Nat.le_refl _); clear hgrow3; rw [← List.map_append] at hown3)
        go_roundw
        case rel => exact ⟨1, by omega, by go_num, ⟨hb3⟩, hown3⟩
        case measure => simp [intOf]
      · go_wp2_with fail
        refine (new_yes _).mono ?_
        rintro e w1 ⟨d, b, rfl, hD, hN, hb, hd⟩
        have HM1 := Lib.hid hN
        have HD1 := Lib.hid hD
        have hds1 := (cell_lt hD.s).1
        have hbs1 := (cell_lt (hD.a.c0 0 (by omega))).1
        dsimp only at hds1 hbs1
        clear hD hN
        go_wp2_with fail
        refine (store_any d b _ 3 (by omega) 7 _ HD1.out).mono ?_
        rintro e w2 ⟨rfl, hD, hu⟩
        have HM2 := Lib.hid (HM1.out.up hu hb)
        have HD2 := Lib.hid hD
        have hds2 := (cell_lt hD.s).1
        have hbs2 := (cell_lt (hD.a.c0 0 (by omega))).1
        dsimp only at hds2 hbs2
        clear hD hu
        go_wp2_with fail
        refine (flush_0 d b _ _ HD2.out).mono ?_
        rintro e w3 ⟨rfl, hD, hu⟩
        have HM3 := Lib.hid (HM2.out.up hu hb)
        have HD3 := Lib.hid hD
        have hds3 := (cell_lt hD.s).1
        have hbs3 := (cell_lt (hD.a.c0 0 (by omega))).1
        dsimp only at hds3 hbs3
        clear hD hu
        go_wp2_with fail
        refine (store_any d b _ 3 (by omega) 8 _ HD3.out).mono ?_
        rintro e w4 ⟨rfl, hD, hu⟩
        have HM4 := Lib.hid (HM3.out.up hu hb)
        have HD4 := Lib.hid hD
        have hds4 := (cell_lt hD.s).1
        have hbs4 := (cell_lt (hD.a.c0 0 (by omega))).1
        dsimp only at hds4 hbs4
        clear hD hu
        go_wp2_with fail
        refine (crash_any d b _ (w4.heap.size + 1) _ 1 1 [1] rfl (by omega) (by omega) (by decide) _ (by simp) (fun p hp => by cases hp; show w4.heap.size ≠ b; omega) (Ints.one .u8 w4 1 _) (HD4.out.nw (Nw.refl.alloc _))).mono ?_
        rintro e w5 ⟨rfl, hD, hu⟩
        have HM5 := Lib.hid ((HM4.out.alloc _).up hu hb)
        have HD5 := Lib.hid hD
        clear hD hu
        go_wp2_with fail
        refine (load_any d b _ 3 (by omega) _ HD5.out).mono ?_
        rintro e w6 ⟨rfl, rfl⟩
        rw [show (gone (crashW [1]) 0 0 (lsL _) _ 3).seen = 7 from by kernel_rfl]
        have how := own_below HM5.out.b HOW.out
        have HN1 := Lib.hid (HN.out.trans HM5.out)
        have hs1 := HN1.out.b.size
        go_wp2_with (at_builtin; refine wpList_append_ints _ rfl (.tmp 48) (.tmp 50) 29 rfl w.heap.size 31 i0 (.int .u64 0) 8 Try.underlying29 hi hz0 hz1 hz2 rfl _ _ _ rfl (how.alloc _) _ 1 1 .u64 [7] _ rfl rfl (Ints.one _ _ _ _) (by unfold maxLen; omega) (by omega) (by simp; omega) ?_; intro v3 w30 hown3 hgrow3; have hb3 : Below w.heap.size w w30 := Below.grownRow (HN1.out.b.alloc hs1 _) hgrow3 (by simp; omega) (how.alloc _) (Nat.le_refl _); clear hgrow3; rw [← List.map_append] at hown3)
        go_roundw
        case rel => exact ⟨2, by omega, by go_num, ⟨hb3⟩, hown3⟩
        case measure => simp [intOf]
      · go_wp2_with fail
        refine (new_yes _).mono ?_
        rintro e w1 ⟨d, b, rfl, hD, hN, hb, hd⟩
        have HM1 := Lib.hid hN
        have HD1 := Lib.hid hD
        have hds1 := (cell_lt hD.s).1
        have hbs1 := (cell_lt (hD.a.c0 0 (by omega))).1
        dsimp only at hds1 hbs1
        clear hD hN
        go_wp2_with fail
        refine (store_any d b _ 3 (by omega) 7 _ HD1.out).mono ?_
        rintro e w2 ⟨rfl, hD, hu⟩
        have HM2 := Lib.hid (HM1.out.up hu hb)
        have HD2 := Lib.hid hD
        have hds2 := (cell_lt hD.s).1
        have hbs2 := (cell_lt (hD.a.c0 0 (by omega))).1
        dsimp only at hds2 hbs2
        clear hD hu
        go_wp2_with fail
        refine (flush_0 d b _ _ HD2.out).mono ?_
        rintro e w3 ⟨rfl, hD, hu⟩
        have HM3 := Lib.hid (HM2.out.up hu hb)
        have HD3 := Lib.hid hD
        have hds3 := (cell_lt hD.s).1
        have hbs3 := (cell_lt (hD.a.c0 0 (by omega))).1
        dsimp only at hds3 hbs3
        clear hD hu
        go_wp2_with fail
        refine (store_any d b _ 3 (by omega) 8 _ HD3.out).mono ?_
        rintro e w4 ⟨rfl, hD, hu⟩
        have HM4 := Lib.hid (HM3.out.up hu hb)
        have HD4 := Lib.hid hD
        have hds4 := (cell_lt hD.s).1
        have hbs4 := (cell_lt (hD.a.c0 0 (by omega))).1
        dsimp only at hds4 hbs4
        clear hD hu
        go_wp2_with fail
        refine (crash_any d b _ (w4.heap.size + 1) _ 1 1 [2] rfl (by omega) (by omega) (by decide) _ (by simp) (fun p hp => by cases hp; show w4.heap.size ≠ b; omega) (Ints.one .u8 w4 2 _) (HD4.out.nw (Nw.refl.alloc _))).mono ?_
        rintro e w5 ⟨rfl, hD, hu⟩
        have HM5 := Lib.hid ((HM4.out.alloc _).up hu hb)
        have HD5 := Lib.hid hD
        clear hD hu
        go_wp2_with fail
        refine (load_any d b _ 3 (by omega) _ HD5.out).mono ?_
        rintro e w6 ⟨rfl, rfl⟩
        rw [show (gone (crashW [2]) 0 0 (lsL _) _ 3).seen = 8 from by kernel_rfl]
        have how := own_below HM5.out.b HOW.out
        have HN1 := Lib.hid (HN.out.trans HM5.out)
        have hs1 := HN1.out.b.size
        go_wp2_with (at_builtin; refine wpList_append_ints _ rfl (.tmp 48) (.tmp 50) 29 rfl w.heap.size 31 i0 (.int .u64 0) 8 Try.underlying29 hi hz0 hz1 hz2 rfl _ _ _ rfl (how.alloc _) _ 1 1 .u64 [8] _ rfl rfl (Ints.one _ _ _ _) (by unfold maxLen; omega) (by omega) (by simp; omega) ?_; intro v3 w30 hown3 hgrow3; have hb3 : Below w.heap.size w w30 := Below.grownRow (HN1.out.b.alloc hs1 _) hgrow3 (by simp; omega) (how.alloc _) (Nat.le_refl _); clear hgrow3; rw [← List.map_append] at hown3)
        go_roundw
        case rel => exact ⟨3, by omega, by go_num, ⟨hb3⟩, hown3⟩
        case measure => simp [intOf]
      · go_wp2_with fail
        refine (new_yes _).mono ?_
        rintro e w1 ⟨d, b, rfl, hD, hN, hb, hd⟩
        have HM1 := Lib.hid hN
        have HD1 := Lib.hid hD
        have hds1 := (cell_lt hD.s).1
        have hbs1 := (cell_lt (hD.a.c0 0 (by omega))).1
        dsimp only at hds1 hbs1
        clear hD hN
        go_wp2_with fail
        refine (store_any d b _ 3 (by omega) 7 _ HD1.out).mono ?_
        rintro e w2 ⟨rfl, hD, hu⟩
        have HM2 := Lib.hid (HM1.out.up hu hb)
        have HD2 := Lib.hid hD
        have hds2 := (cell_lt hD.s).1
        have hbs2 := (cell_lt (hD.a.c0 0 (by omega))).1
        dsimp only at hds2 hbs2
        clear hD hu
        go_wp2_with fail
        refine (flush_0 d b _ _ HD2.out).mono ?_
        rintro e w3 ⟨rfl, hD, hu⟩
        have HM3 := Lib.hid (HM2.out.up hu hb)
        have HD3 := Lib.hid hD
        have hds3 := (cell_lt hD.s).1
        have hbs3 := (cell_lt (hD.a.c0 0 (by omega))).1
        dsimp only at hds3 hbs3
        clear hD hu
        go_wp2_with fail
        refine (store_any d b _ 3 (by omega) 8 _ HD3.out).mono ?_
        rintro e w4 ⟨rfl, hD, hu⟩
        have HM4 := Lib.hid (HM3.out.up hu hb)
        have HD4 := Lib.hid hD
        have hds4 := (cell_lt hD.s).1
        have hbs4 := (cell_lt (hD.a.c0 0 (by omega))).1
        dsimp only at hds4 hbs4
        clear hD hu
        go_wp2_with fail
        refine (fence_any d b _ _ HD4.out).mono ?_
        rintro e w5 ⟨rfl, hD, hu⟩
        have HM5 := Lib.hid (HM4.out.up hu hb)
        have HD5 := Lib.hid hD
        have hds5 := (cell_lt hD.s).1
        have hbs5 := (cell_lt (hD.a.c0 0 (by omega))).1
        dsimp only at hds5 hbs5
        clear hD hu
        go_wp2_with fail
        refine (crash_any d b _ (w5.heap.size + 1) _ 1 1 [0] rfl (by omega) (by omega) (by decide) _ (by simp) (fun p hp => by cases hp; show w5.heap.size ≠ b; omega) (Ints.one .u8 w5 0 _) (HD5.out.nw (Nw.refl.alloc _))).mono ?_
        rintro e w6 ⟨rfl, hD, hu⟩
        have HM6 := Lib.hid ((HM5.out.alloc _).up hu hb)
        have HD6 := Lib.hid hD
        clear hD hu
        go_wp2_with fail
        refine (load_any d b _ 3 (by omega) _ HD6.out).mono ?_
        rintro e w7 ⟨rfl, rfl⟩
        rw [show (gone (crashW [0]) 0 0 (lsL _) _ 3).seen = 7 from by kernel_rfl]
        have how := own_below HM6.out.b HOW.out
        have HN1 := Lib.hid (HN.out.trans HM6.out)
        have hs1 := HN1.out.b.size
        go_wp2_with (at_builtin; refine wpList_append_ints _ rfl (.tmp 48) (.tmp 50) 29 rfl w.heap.size 31 i0 (.int .u64 0) 8 Try.underlying29 hi hz0 hz1 hz2 rfl _ _ _ rfl (how.alloc _) _ 1 1 .u64 [7] _ rfl rfl (Ints.one _ _ _ _) (by unfold maxLen; omega) (by omega) (by simp; omega) ?_; intro v3 w30 hown3 hgrow3; have hb3 : Below w.heap.size w w30 := Below.grownRow (HN1.out.b.alloc hs1 _) hgrow3 (by simp; omega) (how.alloc _) (Nat.le_refl _); clear hgrow3; rw [← List.map_append] at hown3)
        go_roundw
        case rel => exact ⟨4, by omega, by go_num, ⟨hb3⟩, hown3⟩
        case measure => simp [intOf]
    · obtain rfl : k = 4 := by omega
      have how := HOW.out
      have HN2 := Lib.hid HN.out
      clear HN HOW
      obtain ⟨va, vc, rfl, hb, hI⟩ := Ints.of_owns how
      rcases hI with hI | ⟨gb, go, rfl, hgb, hcs⟩
      · cases hI
      have q0 := hcs 0 (by decide)
      have q1 := hcs 1 (by decide)
      have q2 := hcs 2 (by decide)
      have q3 := hcs 3 (by decide)
      have e0 : wr.cell? ⟨gb, go, none⟩ = some (.int .u64 0) := q0
      have e1 : wr.cell? ⟨gb, go + 1, none⟩ = some (.int .u64 7) := q1
      have e2 : wr.cell? ⟨gb, go + 2, none⟩ = some (.int .u64 8) := q2
      have e3 : wr.cell? ⟨gb, go + 3, none⟩ = some (.int .u64 7) := q3
      clear hcs q0 q1 q2 q3 how
      go_wp2_with fail
      refine (new_no _).mono ?_
      rintro e w1 ⟨rfl, rfl⟩
      go_wp2_with fail
      go_ret
      exact ⟨rfl, HN2.out⟩

end Go.Proofs.Ytfjobldfdakfpaa
