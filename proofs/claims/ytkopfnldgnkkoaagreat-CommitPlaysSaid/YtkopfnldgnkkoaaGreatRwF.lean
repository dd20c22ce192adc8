/-
  THE WALK OF grommetref04.Format (the document's).
-/
import Derived.Test.YtkopfnldgnkkoaaGreatLcI
import Derived.Test.YtkopfnldgnkkoaaGreatLyG
namespace Go.Proofs.YtkopfnldgnkkoaaGreat
open Go.RowKit
set_option linter.unusedVariables false

set_option maxHeartbeats 1000000 in
theorem rblockmap_at {w0 w : World} (g : G) (h : At w0 w) :
    Calls Tryz.prog 50 #[gV g] w fun e w' => e = .returned (.int .i64 (placeV g 4 0)) ∧ At w0 w' := by
  by_cases hm : mayP g
  · have Hmb := Lib.hid (mayB_true.2 hm)
    have HM := Lib.hid hm
    obtain ⟨g1, g2, g3, g4, g5, g6⟩ := hm
    have HV := Lib.hid (show placeV g 4 0 = atN g 4 + sizeN 4 * 0 from if_pos ⟨HM.out, by decide, by simp only [manyN]; decide⟩)
    unfold gV
    go_enter Tryz.func50, Tryz.ntmps50
    go_wp2_with fail
    refine (rmay_any g (h.alloc _).self).mono ?_
    rintro e w1 ⟨rfl, k1⟩
    have b1 := (Box.new w g _).at k1
    have h1 := (h.alloc _).trans k1
    rw [Hmb.out]
    clear k1 h
    have hc0 := b1.c0
    have hc1 := b1.c1
    have hc2 := b1.c2
    go_wp2_with fail
    refine (maps_any g HM.out h1.self).mono ?_
    rintro e w2 ⟨rfl, k2⟩
    have h2 := h1.trans k2
    clear hc0 hc1 hc2
    go_wp2_with fail
    go_ret
    exact ⟨ret_int (by rw [HV.out]; simp only [atN, sizeN]; omega), h2⟩
  · have HV := Lib.hid (show placeV g 4 0 = -1 from if_neg (fun hh => hm hh.1))
    have Hmb := Lib.hid (mayB_false.2 hm)
    clear hm
    unfold gV
    go_enter Tryz.func50, Tryz.ntmps50
    go_wp2_with fail
    refine (rmay_any g (h.alloc _)).mono ?_
    rintro e w1 ⟨rfl, h1⟩
    rw [Hmb.out]
    go_wp2_with fail
    go_ret
    exact ⟨by rw [HV.out]; rfl, h1⟩

set_option maxRecDepth 100000 in
set_option maxHeartbeats 4000000 in
theorem rformat_yes {w0 w : World} (g : G) (hm : mayP g) (h : At w0 w) : Calls Tryz.prog 9 #[gV g] w (FmtYes w0 g) := by
  have Hmb := Lib.hid (mayB_true.2 hm)
  obtain ⟨N, hN⟩ : ∃ N : Nat, (atN g 7).toNat = N := ⟨_, rfl⟩
  have hw : wordsV g = (N : Int) := (if_pos hm).trans (by have := (at_bd hm 7).1; omega)
  have HWd := Lib.hid hw
  clear hw
  have HP3 := Lib.hid (show placeV g 3 0 = 264 + 208 * g.w from (if_pos ⟨hm, by decide, by simp only [manyN]; decide⟩ : placeV g 3 0 = atN g 3 + sizeN 3 * 0).trans (by simp only [atN, sizeN]; omega))
  have HP4 := Lib.hid (show placeV g 4 0 = 272 + 208 * g.w from (if_pos ⟨hm, by decide, by simp only [manyN]; decide⟩ : placeV g 4 0 = atN g 4 + sizeN 4 * 0).trans (by simp only [atN, sizeN]; omega))
  have HP5 := Lib.hid (show placeV g 5 1 = 296 + 208 * g.w from (if_pos ⟨hm, by decide, by simp only [manyN]; have := hm.2.2.1; omega⟩ : placeV g 5 1 = atN g 5 + sizeN 5 * 1).trans (by simp only [atN, sizeN]; omega))
  have hn7 : (N : Int) = 280 + 208 * g.w + 16 * g.i + 8 * g.b := by
    obtain ⟨g1, g2, g3, g4, g5, g6⟩ := hm
    rw [← hN]; simp only [atN]; omega
  obtain ⟨g1, g2, g3, g4, g5, g6⟩ := hm
  have hlen : N ≤ 6232 := by omega
  have hlo : 312 + 208 * g.w ≤ (N : Int) := by omega
  have HN := Lib.hid hN
  clear hn7 hN
  obtain ⟨i0, hi, hz0, hz1, hz2⟩ := info_parts info_u64
  obtain ⟨G1, hG1⟩ : ∃ n : Nat, g.w = (n : Int) := Int.eq_ofNat_of_zero_le (by omega)
  have HG := Lib.hid hG1
  have gg1 : G1 ≤ 4 := by omega
  have gg2 : 312 + 208 * G1 ≤ N := by omega
  clear hG1
  have hsz1 : (Tryz.prog.info? 44).map (·.size) = some 1 := by rw [hi]; simp [hz1]
  unfold gV
  go_enter Tryz.func9, Tryz.ntmps9
  go_wp2_with fail
  refine (rmay_any g (h.alloc _).self).mono ?_
  rintro e w1 ⟨rfl, k1⟩
  have b1 := (Box.new w g _).at k1
  have h1 := (h.alloc _).trans k1
  have hlt1 : w.heap.size < w1.heap.size := (cell_lt b1.c0).1
  rw [Hmb.out]
  clear k1
  have hc0 := b1.c0
  have hc1 := b1.c1
  have hc2 := b1.c2
  go_wp2_with fail
  refine (rwords_any g h1.self).mono ?_
  rintro e w2 ⟨rfl, k2⟩
  have b2 := b1.at k2
  have h2 := h1.trans k2
  have hlt2 : w.heap.size < w2.heap.size := (cell_lt b2.c0).1
  rw [HWd.out]
  clear k2 hc0 hc1 hc2 b1 h1 hlt1
  go_upto_region 4 with (at_make; (refine wpList_make_ints rfl _ _ 33 rfl w0.heap.size 44 i0 .u64 Tryz.underlying33 hi hz0 hz1 N rfl rfl (by rw [hz2]; omega) (by unfold maxLen; omega) h2.b.size ?_; intro w3 hr3 hg3; have fm : Fm w0 w3 w.heap.size w2.heap.size g (List.replicate N 0) := ⟨hr3, b2.at ⟨Below.of_grown hg3⟩, h2.trans ⟨Below.of_grown hg3⟩, h2.b.size, by omega⟩; have hl : (List.replicate N (0 : Int)).length = N := (by simp); generalize hLL : List.replicate N (0 : Int) = L0 at fm hl; have HL := Lib.hid hLL; clear hLL; have HLn := Lib.hid hl; clear hl hr3 hg3 b2 h2; have hd0 := fm.x.c0; have hd1 := fm.x.c1; have hd2 := fm.x.c2))
  have hcc := fm.r.cellD (j := 0) (by have := HLn.out; (try simp only [List.length_set]); omega)
  have hff := fm.r.frozen 0
  go_upto_region 5 with (fail)
  replace fm := fm.set 0 32762617960297063
  generalize (World.setCell _ ⟨w2.heap.size, 0, none⟩ (.int .u64 32762617960297063)) = w4 at *
  clear hcc hff hd0 hd1 hd2
  have hd0 := fm.x.c0
  have hd1 := fm.x.c1
  have hd2 := fm.x.c2
  have hcc := fm.r.cellD (j := 1) (by have := HLn.out; (try simp only [List.length_set]); omega)
  have hff := fm.r.frozen 1
  go_upto_region 6 with (fail)
  replace fm := fm.set 1 g.w
  generalize (World.setCell _ ⟨w2.heap.size, 1, none⟩ (.int .u64 g.w)) = w5 at *
  clear hcc hff hd0 hd1 hd2
  have hd0 := fm.x.c0
  have hd1 := fm.x.c1
  have hd2 := fm.x.c2
  have hcc := fm.r.cellD (j := 2) (by have := HLn.out; (try simp only [List.length_set]); omega)
  have hff := fm.r.frozen 2
  go_upto_region 7 with (fail)
  replace fm := fm.set 2 g.i
  generalize (World.setCell _ ⟨w2.heap.size, 2, none⟩ (.int .u64 g.i)) = w6 at *
  clear hcc hff hd0 hd1 hd2
  have hd0 := fm.x.c0
  have hd1 := fm.x.c1
  have hd2 := fm.x.c2
  have hcc := fm.r.cellD (j := 3) (by have := HLn.out; (try simp only [List.length_set]); omega)
  have hff := fm.r.frozen 3
  go_upto_region 8 with (fail)
  replace fm := fm.set 3 g.b
  generalize (World.setCell _ ⟨w2.heap.size, 3, none⟩ (.int .u64 g.b)) = w7 at *
  clear hcc hff hd0 hd1 hd2
  have hd0 := fm.x.c0
  have hd1 := fm.x.c1
  have hd2 := fm.x.c2
  go_wp2_with fail
  refine (rinodemap_at g fm.a.self).mono ?_
  rintro e w8 ⟨rfl, k⟩
  replace fm := fm.at k
  rw [HP3.out]
  clear k hd0 hd1 hd2
  have hd0 := fm.x.c0
  have hd1 := fm.x.c1
  have hd2 := fm.x.c2
  have hcc := fm.r.cellD (j := (264 + 208 * g.w).toNat) (by have := HLn.out; (try simp only [List.length_set]); omega)
  have hff := fm.r.frozen (264 + 208 * g.w).toNat
  go_upto_region 9 with (fail)
  replace fm := fm.set (264 + 208 * g.w).toNat 3
  generalize (World.setCell _ ⟨w2.heap.size, (264 + 208 * g.w).toNat, none⟩ (.int .u64 3)) = w9 at *
  clear hcc hff hd0 hd1 hd2
  have hd0 := fm.x.c0
  have hd1 := fm.x.c1
  have hd2 := fm.x.c2
  go_wp2_with fail
  refine (rblockmap_at g fm.a.self).mono ?_
  rintro e w10 ⟨rfl, k⟩
  replace fm := fm.at k
  rw [HP4.out]
  clear k hd0 hd1 hd2
  have hd0 := fm.x.c0
  have hd1 := fm.x.c1
  have hd2 := fm.x.c2
  have hcc := fm.r.cellD (j := (272 + 208 * g.w).toNat) (by have := HLn.out; (try simp only [List.length_set]); omega)
  have hff := fm.r.frozen (272 + 208 * g.w).toNat
  go_upto_region 10 with (fail)
  replace fm := fm.set (272 + 208 * g.w).toNat 1
  generalize (World.setCell _ ⟨w2.heap.size, (272 + 208 * g.w).toNat, none⟩ (.int .u64 1)) = w11 at *
  clear hcc hff hd0 hd1 hd2
  have hd0 := fm.x.c0
  have hd1 := fm.x.c1
  have hd2 := fm.x.c2
  go_wp2_with fail
  refine (rinode_at g 1 fm.a.self).mono ?_
  rintro e w12 ⟨rfl, k⟩
  replace fm := fm.at k
  rw [HP5.out]
  clear k hd0 hd1 hd2
  have hd0 := fm.x.c0
  have hd1 := fm.x.c1
  have hd2 := fm.x.c2
  have hcc := fm.r.cellD (j := (296 + 208 * g.w).toNat) (by have := HLn.out; (try simp only [List.length_set]); omega)
  have hff := fm.r.frozen (296 + 208 * g.w).toNat
  go_upto_region 11 with (fail)
  replace fm := fm.set (296 + 208 * g.w).toNat 2
  generalize (World.setCell _ ⟨w2.heap.size, (296 + 208 * g.w).toNat, none⟩ (.int .u64 2)) = w13 at *
  clear hcc hff hd0 hd1 hd2
  have hd0 := fm.x.c0
  have hd1 := fm.x.c1
  have hd2 := fm.x.c2
  go_wp2_with fail
  refine (rinode_at g 1 fm.a.self).mono ?_
  rintro e w14 ⟨rfl, k⟩
  replace fm := fm.at k
  rw [HP5.out]
  clear k hd0 hd1 hd2
  have hd0 := fm.x.c0
  have hd1 := fm.x.c1
  have hd2 := fm.x.c2
  have hcc := fm.r.cellD (j := (296 + 208 * g.w + 1).toNat) (by have := HLn.out; (try simp only [List.length_set]); omega)
  have hff := fm.r.frozen (296 + 208 * g.w + 1).toNat
  go_upto_region 12 with (fail)
  replace fm := fm.set (296 + 208 * g.w + 1).toNat 1
  generalize (World.setCell _ ⟨w2.heap.size, (296 + 208 * g.w + 1).toNat, none⟩ (.int .u64 1)) = w15 at *
  clear hcc hff hd0 hd1 hd2
  have hd0 := fm.x.c0
  have hd1 := fm.x.c1
  have hd2 := fm.x.c2
  go_wp2_with fail
  go_ret
  refine ⟨w2.heap.size, by rw [HN.out]; rfl, ?_, fm.ge, fm.a⟩
  have hr := fm.r
  rw [← HL.out, show (296 + 208 * g.w + 1).toNat = (297 + 208 * g.w).toNat by omega] at hr
  unfold fmtL
  rw [HN.out]
  exact hr


end Go.Proofs.YtkopfnldgnkkoaaGreat
