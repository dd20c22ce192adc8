/-
  THE WALK OF layout.Format.
-/
import Derived.Test.YtkopfnldgnkkoaaLcH
namespace Go.Proofs.Ytkopfnldgnkkoaa
open Go.RowKit

theorem splice4 (zs : List Int) (a b c d : Int) (h : 4 ≤ zs.length) : spliceI zs 0 [a, b, c, d] = (((zs.set 0 a).set 1 b).set 2 c).set 3 d := by
  rw [splice_cons _ _ _ _ (by omega), splice_cons _ _ _ _ (by simp; omega), splice_cons _ _ _ _ (by simp; omega), splice_cons _ _ _ _ (by simp; omega), splice_nil]
theorem splice2 (zs : List Int) (off : Nat) (a b : Int) (h : off + 2 ≤ zs.length) : spliceI zs off [a, b] = (zs.set off a).set (off + 1) b := by
  rw [splice_cons _ _ _ _ (by omega), splice_cons _ _ _ _ (by simp; omega), splice_nil]

theorem fm_copy {w0 w w' : World} {bx b : Nat} {g : G} {zs ys : List Int} (h : Fm w0 w bx b g zs) (o : Obj) (hr : Row w' b 39 .u64 ys) (hb : Below b (w.alloc o) w') (hx : bx < b) : Fm w0 w' bx b g ys := by
  have hb' : Below b w w' := ((Below.refl _ w).alloc (Nat.le_of_lt h.r.lt) o).trans hb
  exact ⟨hr, ⟨(hb'.cell (p := ⟨bx, 0, none⟩) hx).trans h.x.c0, (hb'.cell (p := ⟨bx, 1, none⟩) hx).trans h.x.c1, (hb'.cell (p := ⟨bx, 2, none⟩) hx).trans h.x.c2⟩, ⟨h.a.b.trans (hb'.mono h.ge)⟩, h.ge, h.ne⟩

set_option maxRecDepth 100000 in
set_option maxHeartbeats 4000000 in
theorem format_yes {w0 w : World} (g : G) (hm : mayP g) (h : At w0 w) : Calls Try.prog 9 #[gV g] w (FmtYes w0 g) := by
  have Hmb := Lib.hid (mayB_true.2 hm)
  obtain ⟨N, hN⟩ : ∃ N : Nat, (atN g 7).toNat = N := ⟨_, rfl⟩
  have hw : wordsV g = (N : Int) := (if_pos hm).trans (by have := (at_bd hm 7).1; omega)
  have HWd := Lib.hid hw
  clear hw
  have HP3 := Lib.hid (show placeV g 3 0 = 264 + 208 * g.w from (if_pos ⟨hm, by decide, by simp only [manyN]; decide⟩ : placeV g 3 0 = atN g 3 + sizeN 3 * 0).trans (by simp only [atN, sizeN]; omega))
  have HP4 := Lib.hid (show placeV g 4 0 = 272 + 208 * g.w from (if_pos ⟨hm, by decide, by simp only [manyN]; decide⟩ : placeV g 4 0 = atN g 4 + sizeN 4 * 0).trans (by simp only [atN, sizeN]; omega))
  have HP5 := Lib.hid (show placeV g 5 1 = 296 + 208 * g.w from (if_pos ⟨hm, by decide, by simp only [manyN]; have := hm.2.2.1; omega⟩ : placeV g 5 1 = atN g 5 + sizeN 5 * 1).trans (by simp only [atN, sizeN]; omega))
  have hn7 : (N : Int) = 280 + 208 * g.w + 16 * g.i + 8 * g.b := by
    obtain ⟨g1, g2, g3, g4, g5, g6⟩ := hm
    rw [← hN]; simp only [atN]; omega
  obtain ⟨g1, g2, g3, g4, g5, g6⟩ := hm
  have hlen : N ≤ 6232 := by omega
  have hlo : 312 + 208 * g.w ≤ (N : Int) := by omega
  have HN := Lib.hid hN
  clear hn7 hN
  obtain ⟨i0, hi, hz0, hz1, hz2⟩ := info_parts info_u64
  obtain ⟨G1, hG1⟩ : ∃ n : Nat, g.w = (n : Int) := Int.eq_ofNat_of_zero_le (by omega)
  have HG := Lib.hid hG1
  have gg1 : G1 ≤ 4 := by omega
  have gg2 : 312 + 208 * G1 ≤ N := by omega
  clear hG1
  have hsz1 : (Try.prog.info? 39).map (·.size) = some 1 := by rw [hi]; simp [hz1]
  unfold gV
  go_enter Try.func9, Try.ntmps9
  go_wp2_with fail
  refine (may_any g (h.alloc _).self).mono ?_
  rintro e w1 ⟨rfl, k1⟩
  have b1 := (Box.new w g _).at k1
  have h1 := (h.alloc _).trans k1
  have hlt1 : w.heap.size < w1.heap.size := (cell_lt b1.c0).1
  rw [Hmb.out]
  clear k1
  have hc0 := b1.c0
  have hc1 := b1.c1
  have hc2 := b1.c2
  go_wp2_with fail
  refine (lwords_any g h1.self).mono ?_
  rintro e w2 ⟨rfl, k2⟩
  have b2 := b1.at k2
  have h2 := h1.trans k2
  have hlt2 : w.heap.size < w2.heap.size := (cell_lt b2.c0).1
  rw [HWd.out]
  clear k2 hc0 hc1 hc2 b1 h1 hlt1
  go_upto_region 4 with (at_make; (refine wpList_make_ints rfl _ _ 30 rfl w0.heap.size 39 i0 .u64 Try.underlying30 hi hz0 hz1 N rfl rfl (by rw [hz2]; omega) (by unfold maxLen; omega) h2.b.size ?_; intro w3 hr3 hg3; have fm : Fm w0 w3 w.heap.size w2.heap.size g (List.replicate N 0) := ⟨hr3, b2.at ⟨Below.of_grown hg3⟩, h2.trans ⟨Below.of_grown hg3⟩, h2.b.size, by omega⟩; have hl : (List.replicate N (0 : Int)).length = N := (by simp); generalize hLL : List.replicate N (0 : Int) = L0 at fm hl; have HL := Lib.hid hLL; clear hLL; have HLn := Lib.hid hl; clear hl hr3 hg3 b2 h2; have hd0 := fm.x.c0; have hd1 := fm.x.c1; have hd2 := fm.x.c2))
  go_wp2_with (refine wpList_copy_ints rfl (.tmp 10) (.tmp 20) 30 30 rfl 39 Try.underlying30 hsz1 (some ⟨w2.heap.size, 0, none⟩) (some ⟨w3.heap.size, 0, none⟩) N N 4 4 rfl rfl w2.heap.size 0 rfl 39 .u64 L0 (fm.r.alloc _) [32762617960297063, g.w, g.i, g.b] (w3.heap.size + 1) ?c0 rfl ?c1 ?c2 ?c3; (case c0 => (exact .inr ⟨_, 0, rfl, Nat.lt_succ_self _, by intro j hj; rw [Nat.zero_add, World.cell?_alloc_new]; simp at hj; match j, hj with | 0, _ => rfl | 1, _ => rfl | 2, _ => rfl | 3, _ => rfl⟩)); (case c1 => omega); (case c2 => (have := HLn.out; omega)); intro w4 hr4 hb4; clear hd0 hd1 hd2; rw [splice4 _ _ _ _ _ (by have := HLn.out; omega)] at hr4; replace fm : Fm w0 w4 w.heap.size w2.heap.size g _ := fm_copy fm _ hr4 hb4 hlt2; clear hr4 hb4; have hd0 := fm.x.c0; have hd1 := fm.x.c1; have hd2 := fm.x.c2)
  refine (inode_map_at g fm.a.self).mono ?_
  rintro e w5 ⟨rfl, k⟩
  replace fm := fm.at k
  rw [HP3.out]
  clear k hd0 hd1 hd2
  have hd0 := fm.x.c0
  have hd1 := fm.x.c1
  have hd2 := fm.x.c2
  have hcc := fm.r.cellD (j := (264 + 208 * g.w).toNat) (by have := HLn.out; (try simp only [List.length_set]); omega)
  have hff := fm.r.frozen (264 + 208 * g.w).toNat
  go_upto_region 6 with (fail)
  replace fm := fm.set (264 + 208 * g.w).toNat 3
  generalize (World.setCell _ ⟨w2.heap.size, (264 + 208 * g.w).toNat, none⟩ (.int .u64 3)) = w6 at *
  clear hcc hff hd0 hd1 hd2
  have hd0 := fm.x.c0
  have hd1 := fm.x.c1
  have hd2 := fm.x.c2
  go_wp2_with fail
  refine (block_map_at g fm.a.self).mono ?_
  rintro e w7 ⟨rfl, k⟩
  replace fm := fm.at k
  rw [HP4.out]
  clear k hd0 hd1 hd2
  have hd0 := fm.x.c0
  have hd1 := fm.x.c1
  have hd2 := fm.x.c2
  have hcc := fm.r.cellD (j := (272 + 208 * g.w).toNat) (by have := HLn.out; (try simp only [List.length_set]); omega)
  have hff := fm.r.frozen (272 + 208 * g.w).toNat
  go_upto_region 7 with (fail)
  replace fm := fm.set (272 + 208 * g.w).toNat 1
  generalize (World.setCell _ ⟨w2.heap.size, (272 + 208 * g.w).toNat, none⟩ (.int .u64 1)) = w8 at *
  clear hcc hff hd0 hd1 hd2
  have hd0 := fm.x.c0
  have hd1 := fm.x.c1
  have hd2 := fm.x.c2
  go_wp2_with fail
  refine (inode_at g 1 fm.a.self).mono ?_
  rintro e w9 ⟨rfl, k⟩
  replace fm := fm.at k
  rw [HP5.out]
  clear k hd0 hd1 hd2
  have hd0 := fm.x.c0
  have hd1 := fm.x.c1
  have hd2 := fm.x.c2
  go_wp2_with (refine wpList_copy_ints rfl (.tmp 33) (.tmp 34) 30 30 rfl 39 Try.underlying30 hsz1 (some ⟨w2.heap.size, (296 + 208 * g.w).toNat, none⟩) (some ⟨w9.heap.size, 0, none⟩) (N - (296 + 208 * g.w).toNat) (N - (296 + 208 * g.w).toNat) 2 2 rfl rfl w2.heap.size (296 + 208 * g.w).toNat rfl 39 .u64 _ (fm.r.alloc _) [2, 1] (w9.heap.size + 1) ?e0 rfl ?e1 ?e2 ?e3; (case e0 => (exact .inr ⟨_, 0, rfl, Nat.lt_succ_self _, by intro j hj; rw [Nat.zero_add, World.cell?_alloc_new]; simp at hj; match j, hj with | 0, _ => rfl | 1, _ => rfl⟩)); (case e1 => omega); (case e2 => (have := HLn.out; simp only [List.length_set]; omega)); intro w10 hr4 hb4; clear hd0 hd1 hd2; rw [splice2 _ _ _ _ (by have := HLn.out; simp only [List.length_set]; omega)] at hr4; replace fm : Fm w0 w10 w.heap.size w2.heap.size g _ := fm_copy fm _ hr4 hb4 hlt2; clear hr4 hb4)
  go_ret
  refine ⟨w2.heap.size, by rw [HN.out]; rfl, ?_, fm.ge, fm.a⟩
  have hr := fm.r
  rw [← HL.out, show (296 + 208 * g.w).toNat + 1 = (297 + 208 * g.w).toNat by omega] at hr
  unfold fmtL
  rw [HN.out]
  exact hr

/-- Of a geometry that may not be: nothing. -/
def FmtNo (w0 : World) (e : Ending) (w' : World) : Prop := e = .returned (.slice none 0 0) ∧ At w0 w'
set_option maxHeartbeats 400000 in
theorem format_no {w0 w : World} (g : G) (hm : ¬ mayP g) (h : At w0 w) : Calls Try.prog 9 #[gV g] w (FmtNo w0) := by
  have Hmb := Lib.hid (mayB_false.2 hm)
  clear hm
  unfold gV
  go_enter Try.func9, Try.ntmps9
  go_wp2_with fail
  refine (may_any g (h.alloc _)).mono ?_
  rintro e w1 ⟨rfl, h1⟩
  rw [Hmb.out]
  go_wp2_with fail
  go_ret
  exact ⟨rfl, h1⟩

end Go.Proofs.Ytkopfnldgnkkoaa
