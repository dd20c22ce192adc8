/-
  THE WALKS OF layout.Format and grommetref04.Format.
-/
import Derived.Test.YteaokdkfpafmaaaDoorLayD
import Derived.Deep.Cut
import Derived.Deep.Cut
namespace Go.Proofs.YteaokdkfpafmaaaDoor
open Go.RowKit

theorem info_u64 : (Tryd.prog.info? 42).map (fun i => (i.zero, i.size, i.bytes)) = some (some (.int .u64 0), 1, 8) := by kernel_rfl

/-- The words of a new device. -/
def fmtL (g : G) : List Int :=
  ((((((((List.replicate (atN g 7).toNat (0 : Int)).set 0 32762617960297063).set 1 g.w).set 2 g.i).set 3 g.b).set (264 + 208 * g.w).toNat 3).set (272 + 208 * g.w).toNat 1).set (296 + 208 * g.w).toNat 2).set (297 + 208 * g.w).toNat 1
theorem fmtL_length (g : G) : (fmtL g).length = (atN g 7).toNat := by simp [fmtL]

/-- What Format of a geometry that may be leaves. -/
def FmtYes (w0 : World) (g : G) (e : Ending) (w' : World) : Prop :=
  ∃ b, e = .returned (.slice (some ⟨b, 0, none⟩) (atN g 7).toNat (atN g 7).toNat) ∧ Row w' b 42 .u64 (fmtL g) ∧ w0.heap.size ≤ b ∧ At w0 w'

theorem Row.at {w w' : World} {g : Nat} {t : TypeId} {k : IntKind} {zs : List Int} (h : Row w g t k zs) (ha : At w w') : Row w' g t k zs := h.below ha.b h.lt
theorem Box.set {w : World} {b : Nat} {g : G} (h : Box w b g) {a : Addr} (ha : a.block ≠ b) (v : Value) : Box (w.setCell a v) b g :=
  ⟨(World.cell?_setCell_other w a _ v (fun e => ha (by rw [e]))).trans h.c0, (World.cell?_setCell_other w a _ v (fun e => ha (by rw [e]))).trans h.c1, (World.cell?_setCell_other w a _ v (fun e => ha (by rw [e]))).trans h.c2⟩
theorem At.set {w0 w : World} (h : At w0 w) {a : Addr} (ha : w0.heap.size ≤ a.block) (v : Value) : At w0 (w.setCell a v) := ⟨h.b.setCell ha v, h.l⟩

/-- The device's words b, the box, the base. -/
structure Fm (w0 w : World) (bx b : Nat) (g : G) (zs : List Int) : Prop where
  r : Row w b 42 .u64 zs
  x : Box w bx g
  a : At w0 w
  ge : w0.heap.size ≤ b
  ne : b ≠ bx
theorem Fm.set {w0 w : World} {bx b : Nat} {g : G} {zs : List Int} (h : Fm w0 w bx b g zs) (j : Nat) (v : Int) : Fm w0 (w.setCell ⟨b, j, none⟩ (.int .u64 v)) bx b g (zs.set j v) :=
  ⟨h.r.set j v, h.x.set h.ne _, h.a.set h.ge _, h.ge, h.ne⟩
theorem Fm.at {w0 w w' : World} {bx b : Nat} {g : G} {zs : List Int} (h : Fm w0 w bx b g zs) (k : At w w') : Fm w0 w' bx b g zs := ⟨h.r.at k, h.x.at k, h.a.trans k, h.ge, h.ne⟩

set_option maxRecDepth 100000 in
set_option maxHeartbeats 4000000 in
theorem rformat_yes {w0 w : World} (g : G) (hm : mayP g) (h : At w0 w) : Calls Tryd.prog 34 #[gV g] w (FmtYes w0 g) := by
  have Hmb := Lib.hid (mayB_true.2 hm)
  obtain ⟨N, hN⟩ : ∃ N : Nat, (atN g 7).toNat = N := ⟨_, rfl⟩
  have hw : wordsV g = (N : Int) := (if_pos hm).trans (by have := (at_bd hm 7).1; omega)
  have HWd := Lib.hid hw
  clear hw
  have HP3 := Lib.hid (show placeV g 3 0 = 264 + 208 * g.w from (if_pos ⟨hm, by decide, by simp only [manyN]; decide⟩ : placeV g 3 0 = atN g 3 + sizeN 3 * 0).trans (by simp only [atN, sizeN]; omega))
  have HP4 := Lib.hid (show placeV g 4 0 = 272 + 208 * g.w from (if_pos ⟨hm, by decide, by simp only [manyN]; decide⟩ : placeV g 4 0 = atN g 4 + sizeN 4 * 0).trans (by simp only [atN, sizeN]; omega))
  have HP5 := Lib.hid (show placeV g 5 1 = 296 + 208 * g.w from (if_pos ⟨hm, by decide, by simp only [manyN]; have := hm.2.2.1; omega⟩ : placeV g 5 1 = atN g 5 + sizeN 5 * 1).trans (by simp only [atN, sizeN]; omega))
  have hn7 : (N : Int) = 280 + 208 * g.w + 16 * g.i + 8 * g.b := by
    obtain ⟨g1, g2, g3, g4, g5, g6⟩ := hm
    rw [← hN]; simp only [atN]; omega
  obtain ⟨g1, g2, g3, g4, g5, g6⟩ := hm
  have hlen : N ≤ 6232 := by omega
  have hlo : 312 + 208 * g.w ≤ (N : Int) := by omega
  have HN := Lib.hid hN
  clear hn7 hN
  obtain ⟨i0, hi, hz0, hz1, hz2⟩ := info_parts info_u64
  obtain ⟨G1, hG1⟩ : ∃ n : Nat, g.w = (n : Int) := Int.eq_ofNat_of_zero_le (by omega)
  have HG := Lib.hid hG1
  have gg1 : G1 ≤ 4 := by omega
  have gg2 : 312 + 208 * G1 ≤ N := by omega
  clear hG1
  have hsz1 : (Tryd.prog.info? 42).map (·.size) = some 1 := by rw [hi]; simp [hz1]
  unfold gV
  go_enter Tryd.func34, Tryd.ntmps34
  go_wp2_with fail
  refine (rmay_any g (h.alloc _).self).mono ?_
  rintro e w1 ⟨rfl, k1⟩
  have b1 := (Box.new w g _).at k1
  have h1 := (h.alloc _).trans k1
  have hlt1 : w.heap.size < w1.heap.size := (cell_lt b1.c0).1
  rw [Hmb.out]
  clear k1
  have hc0 := b1.c0
  have hc1 := b1.c1
  have hc2 := b1.c2
  go_wp2_with fail
  refine (rwords_any g h1.self).mono ?_
  rintro e w2 ⟨rfl, k2⟩
  have b2 := b1.at k2
  have h2 := h1.trans k2
  have hlt2 : w.heap.size < w2.heap.size := (cell_lt b2.c0).1
  rw [HWd.out]
  clear k2 hc0 hc1 hc2 b1 h1 hlt1
  go_upto_region 4 with (at_make; (refine wpList_make_ints rfl _ _ 38 rfl w0.heap.size 42 i0 .u64 Tryd.underlying38 hi hz0 hz1 N rfl rfl (by rw [hz2]; omega) (by unfold maxLen; omega) h2.b.size ?_; intro w3 hr3 hg3; have fm : Fm w0 w3 w.heap.size w2.heap.size g (List.replicate N 0) := ⟨hr3, b2.at ⟨Below.of_grown hg3, h2.least⟩, h2.trans ⟨Below.of_grown hg3, h2.least⟩, h2.b.size, by omega⟩; have hl : (List.replicate N (0 : Int)).length = N := (by simp); generalize hLL : List.replicate N (0 : Int) = L0 at fm hl; have HL := Lib.hid hLL; clear hLL; have HLn := Lib.hid hl; clear hl hr3 hg3 b2 h2; have hd0 := fm.x.c0; have hd1 := fm.x.c1; have hd2 := fm.x.c2))
  have hcc := fm.r.cellD (j := 0) (by have := HLn.out; (try simp only [List.length_set]); omega)
  have hff := fm.r.frozen 0
  go_upto_region 5 with (fail)
  replace fm := fm.set 0 32762617960297063
  generalize (World.setCell _ ⟨w2.heap.size, 0, none⟩ (.int .u64 32762617960297063)) = w4 at *
  clear hcc hff hd0 hd1 hd2
  have hd0 := fm.x.c0
  have hd1 := fm.x.c1
  have hd2 := fm.x.c2
  have hcc := fm.r.cellD (j := 1) (by have := HLn.out; (try simp only [List.length_set]); omega)
  have hff := fm.r.frozen 1
  go_upto_region 6 with (fail)
  replace fm := fm.set 1 g.w
  generalize (World.setCell _ ⟨w2.heap.size, 1, none⟩ (.int .u64 g.w)) = w5 at *
  clear hcc hff hd0 hd1 hd2
  have hd0 := fm.x.c0
  have hd1 := fm.x.c1
  have hd2 := fm.x.c2
  have hcc := fm.r.cellD (j := 2) (by have := HLn.out; (try simp only [List.length_set]); omega)
  have hff := fm.r.frozen 2
  go_upto_region 7 with (fail)
  replace fm := fm.set 2 g.i
  generalize (World.setCell _ ⟨w2.heap.size, 2, none⟩ (.int .u64 g.i)) = w6 at *
  clear hcc hff hd0 hd1 hd2
  have hd0 := fm.x.c0
  have hd1 := fm.x.c1
  have hd2 := fm.x.c2
  have hcc := fm.r.cellD (j := 3) (by have := HLn.out; (try simp only [List.length_set]); omega)
  have hff := fm.r.frozen 3
  go_upto_region 8 with (fail)
  replace fm := fm.set 3 g.b
  generalize (World.setCell _ ⟨w2.heap.size, 3, none⟩ (.int .u64 g.b)) = w7 at *
  clear hcc hff hd0 hd1 hd2
  have hd0 := fm.x.c0
  have hd1 := fm.x.c1
  have hd2 := fm.x.c2
  go_wp2_with fail
  refine (rinodemap_at g fm.a.self).mono ?_
  rintro e w8 ⟨rfl, k⟩
  replace fm := fm.at k
  rw [HP3.out]
  clear k hd0 hd1 hd2
  have hd0 := fm.x.c0
  have hd1 := fm.x.c1
  have hd2 := fm.x.c2
  have hcc := fm.r.cellD (j := (264 + 208 * g.w).toNat) (by have := HLn.out; (try simp only [List.length_set]); omega)
  have hff := fm.r.frozen (264 + 208 * g.w).toNat
  go_upto_region 9 with (fail)
  replace fm := fm.set (264 + 208 * g.w).toNat 3
  generalize (World.setCell _ ⟨w2.heap.size, (264 + 208 * g.w).toNat, none⟩ (.int .u64 3)) = w9 at *
  clear hcc hff hd0 hd1 hd2
  have hd0 := fm.x.c0
  have hd1 := fm.x.c1
  have hd2 := fm.x.c2
  go_wp2_with fail
  refine (rblockmap_at g fm.a.self).mono ?_
  rintro e w10 ⟨rfl, k⟩
  replace fm := fm.at k
  rw [HP4.out]
  clear k hd0 hd1 hd2
  have hd0 := fm.x.c0
  have hd1 := fm.x.c1
  have hd2 := fm.x.c2
  have hcc := fm.r.cellD (j := (272 + 208 * g.w).toNat) (by have := HLn.out; (try simp only [List.length_set]); omega)
  have hff := fm.r.frozen (272 + 208 * g.w).toNat
  go_upto_region 10 with (fail)
  replace fm := fm.set (272 + 208 * g.w).toNat 1
  generalize (World.setCell _ ⟨w2.heap.size, (272 + 208 * g.w).toNat, none⟩ (.int .u64 1)) = w11 at *
  clear hcc hff hd0 hd1 hd2
  have hd0 := fm.x.c0
  have hd1 := fm.x.c1
  have hd2 := fm.x.c2
  go_wp2_with fail
  refine (rinode_at g 1 fm.a.self).mono ?_
  rintro e w12 ⟨rfl, k⟩
  replace fm := fm.at k
  rw [HP5.out]
  clear k hd0 hd1 hd2
  have hd0 := fm.x.c0
  have hd1 := fm.x.c1
  have hd2 := fm.x.c2
  have hcc := fm.r.cellD (j := (296 + 208 * g.w).toNat) (by have := HLn.out; (try simp only [List.length_set]); omega)
  have hff := fm.r.frozen (296 + 208 * g.w).toNat
  go_upto_region 11 with (fail)
  replace fm := fm.set (296 + 208 * g.w).toNat 2
  generalize (World.setCell _ ⟨w2.heap.size, (296 + 208 * g.w).toNat, none⟩ (.int .u64 2)) = w13 at *
  clear hcc hff hd0 hd1 hd2
  have hd0 := fm.x.c0
  have hd1 := fm.x.c1
  have hd2 := fm.x.c2
  go_wp2_with fail
  refine (rinode_at g 1 fm.a.self).mono ?_
  rintro e w14 ⟨rfl, k⟩
  replace fm := fm.at k
  rw [HP5.out]
  clear k hd0 hd1 hd2
  have hd0 := fm.x.c0
  have hd1 := fm.x.c1
  have hd2 := fm.x.c2
  have hcc := fm.r.cellD (j := (296 + 208 * g.w + 1).toNat) (by have := HLn.out; (try simp only [List.length_set]); omega)
  have hff := fm.r.frozen (296 + 208 * g.w + 1).toNat
  go_upto_region 12 with (fail)
  replace fm := fm.set (296 + 208 * g.w + 1).toNat 1
  generalize (World.setCell _ ⟨w2.heap.size, (296 + 208 * g.w + 1).toNat, none⟩ (.int .u64 1)) = w15 at *
  clear hcc hff hd0 hd1 hd2
  have hd0 := fm.x.c0
  have hd1 := fm.x.c1
  have hd2 := fm.x.c2
  go_wp2_with fail
  go_ret
  refine ⟨w2.heap.size, by rw [HN.out]; rfl, ?_, fm.ge, fm.a⟩
  have hr := fm.r
  rw [← HL.out, show (296 + 208 * g.w + 1).toNat = (297 + 208 * g.w).toNat by omega] at hr
  unfold fmtL
  rw [HN.out]
  exact hr

end Go.Proofs.YteaokdkfpafmaaaDoor
