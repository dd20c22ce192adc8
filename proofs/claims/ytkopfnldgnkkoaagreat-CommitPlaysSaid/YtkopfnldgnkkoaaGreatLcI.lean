import Derived.Test.YtkopfnldgnkkoaaGreatLyE
import Derived.Test.YtkopfnldgnkkoaaGreatRdC
import Derived.Deep.Cut

/-
  THE WALK OF layout.Words (nothing laid).
-/
namespace Go.Proofs.YtkopfnldgnkkoaaGreat
open Go.RowKit

set_option maxRecDepth 100000 in
set_option maxHeartbeats 1000000 in
theorem lwords_any {w0 w : World} (g : G) (h : At w0 w) :
    Calls Tryz.prog 35 #[gV g] w fun e w' => e = .returned (.int .i64 (wordsV g)) ∧ At w0 w' := by
  by_cases hm : mayP g
  · have hv : wordsV g = atN g 7 := if_pos hm
    rw [hv]; clear hv
    have hmb : mayB g = true := mayB_true.2 hm
    have Hmb := Lib.hid hmb
    clear hmb
    unfold gV
    go_enter Tryz.func35, Tryz.ntmps35
    go_wp2_with fail
    refine (may_any g (h.alloc _).self).mono ?_
    rintro e w1 ⟨rfl, k1⟩
    have b1 := (Box.new w g _).at k1
    have h1 := (h.alloc _).trans k1
    clear k1
    rw [Hmb.out]
    clear Hmb
    have hc0 := b1.c0
    have hc1 := b1.c1
    have hc2 := b1.c2
    go_wp2_with fail
    refine (rows_any g h1).mono ?_
    rintro e w2 ⟨rfl, h2⟩
    clear hc0 hc1 hc2 b1 h1 h
    go_wp2_with fail
    go_loopw [2, 10] (fun s i wr => ∃ n : Nat, n ≤ 7 ∧ i = .int .i64 n ∧ s = .int .i64 (atN g n) ∧ At w0 wr) (fun _ i _ => 7 - (intOf i).toNat)
    case atStart => exact ⟨0, by omega, rfl, rfl, h2⟩
    case round =>
      clear h2
      obtain ⟨n, hn, rfl, rfl, hr⟩ := hrel
      by_cases hlt : n < 7
      · have hix := index_row g hlt
        have hs := Lib.hid (atN_succ g hlt)
        have hp := prod_bd hm hlt
        have ha := at_bd hm n
        clear hm
        go_wp2_with fail
        go_roundw
        case rel => exact ⟨n + 1, by omega, by go_num, by rw [hs.out], hr.alloc _⟩
        case measure => simp [intOf]; omega
      · obtain rfl : n = 7 := by omega
        go_wp2_with fail
        go_ret
        exact ⟨rfl, hr⟩
  · have hv : wordsV g = 0 := if_neg hm
    rw [hv]; clear hv
    have Hmb := Lib.hid (mayB_false.2 hm)
    unfold gV
    go_enter Tryz.func35, Tryz.ntmps35
    go_wp2_with fail
    refine (may_any g (h.alloc _)).mono ?_
    rintro e w1 ⟨rfl, h1⟩
    rw [Hmb.out]
    go_wp2_with fail
    go_ret
    exact ⟨rfl, h1⟩

end Go.Proofs.YtkopfnldgnkkoaaGreat

/-
  THE WALKS OF layout.place, SessionAt, part, SlotAt, DescriptorAt, AreaAt, InodeMapAt, BlockMapAt, InodeAt, BlockAt.
-/
namespace Go.Proofs.YtkopfnldgnkkoaaGreat
open Go.RowKit

set_option maxRecDepth 100000 in
set_option maxHeartbeats 2000000 in
/-- Of a geometry that may be. -/
theorem place_yes {w0 w : World} (g : G) (m : Nat) (hm7 : m < 7) (i : Int) (hm : mayP g) (h : At w0 w) :
    Calls Tryz.prog 87 #[gV g, .int .u8 (kindN m), .int .i64 i] w fun e w' => e = .returned (.int .i64 (placeV g m i)) ∧ At w0 w' := by
  unfold gV
  go_enter Tryz.func87, Tryz.ntmps87
  go_wp2_with fail
  refine (rows_any g (h.alloc _).self).mono ?_
  rintro e w2 ⟨rfl, k2⟩
  have b2 := (Box.new w g _).at k2
  have h2 := (h.alloc _).trans k2
  clear k2 h
  go_wp2_with fail
  go_loopw [7, 12] (fun s i wr => ∃ n : Nat, n ≤ m ∧ i = .int .i64 n ∧ s = .int .i64 (atN g n) ∧ At w0 wr ∧ Box wr w.heap.size g) (fun _ i _ => 7 - (intOf i).toNat)
  case atStart => exact ⟨0, by omega, rfl, rfl, h2, b2⟩
  case round =>
    clear h2 b2
    obtain ⟨n, hn, rfl, rfl, hr, br⟩ := hrel
    have hn7 : n < 7 := by omega
    have hix := index_row g hn7
    by_cases hlt : n < m
    · have hs := Lib.hid (atN_succ g hn7)
      have hp := prod_bd hm hn7
      have ha := at_bd hm n
      have hkk := kind_inj hn7 hm7 hlt
      have BR := Lib.hid br
      have HM := Lib.hid hm
      clear hm br
      go_wp2_with fail
      go_roundw
      case rel => exact ⟨n + 1, by omega, by go_num, by rw [hs.out], hr.alloc _, BR.out.alloc _⟩
      case measure => simp [intOf]; omega
    · obtain rfl : n = m := by omega
      have ha := at_bd hm n
      have hmany := many_bd hm hn7
      have hsize := size_bd n
      have Hmb := Lib.hid (mayB_true.2 hm)
      have hkk : (kindN n != kindN n) = false := by simp
      have br1 := br.alloc (.cells #[.int .u8 (kindN n), .int .i64 (sizeN n), .int .i64 (manyN g n)] 153)
      have hc0 := br1.c0
      have hc1 := br1.c1
      have hc2 := br1.c2
      go_wp2_with fail
      refine (may_any g (hr.alloc _).self).mono ?_
      rintro e w3 ⟨rfl, k3⟩
      have h3 := (hr.alloc _).trans k3
      have hd0 : w3.cell? ⟨wr.heap.size, 0, none⟩ = some (.int .u8 (kindN n)) := (k3.b.cell (p := ⟨wr.heap.size, 0, none⟩) (by simp)).trans (by simp)
      have hd1 : w3.cell? ⟨wr.heap.size, 1, none⟩ = some (.int .i64 (sizeN n)) := (k3.b.cell (p := ⟨wr.heap.size, 1, none⟩) (by simp)).trans (by simp)
      have hd2 : w3.cell? ⟨wr.heap.size, 2, none⟩ = some (.int .i64 (manyN g n)) := (k3.b.cell (p := ⟨wr.heap.size, 2, none⟩) (by simp)).trans (by simp)
      rw [Hmb.out]
      clear hc0 hc1 hc2 br1 br k3
      go_wp2_with fail
      refine (within_any _ _ _ _).mono ?_
      rintro e _ ⟨rfl, rfl⟩
      cases hin : inB i 0 (manyN g n - 1)
      · have hv : placeV g n i = -1 := if_neg (by simp [inB] at hin; intro hh; have := hin hh.2.1; omega)
        have HV := Lib.hid hv
        clear hv hin
        go_wp2_with fail
        go_ret
        exact ⟨by rw [HV.out]; rfl, h3⟩
      · have hin' : 0 ≤ i ∧ i ≤ manyN g n - 1 := by simpa [inB] using hin
        have hv : placeV g n i = atN g n + sizeN n * i := if_pos ⟨hm, hin'⟩
        have hq : 0 ≤ sizeN n * i ∧ sizeN n * i ≤ 208 * 512 := ⟨Int.mul_nonneg (by omega) hin'.1, Int.mul_le_mul hsize.2 (by omega) hin'.1 (by omega)⟩
        have HV := Lib.hid hv
        clear hv hin
        go_wp2_with fail
        go_ret
        exact ⟨by rw [HV.out]; rfl, h3⟩

set_option maxRecDepth 100000 in
set_option maxHeartbeats 2000000 in
/-- Of one that may not be. -/
theorem place_no {w0 w : World} (g : G) (m : Nat) (hm7 : m < 7) (i : Int) (hm : ¬ mayP g) (h : At w0 w) :
    Calls Tryz.prog 87 #[gV g, .int .u8 (kindN m), .int .i64 i] w fun e w' => e = .returned (.int .i64 (placeV g m i)) ∧ At w0 w' := by
  have hv : placeV g m i = -1 := if_neg (fun hh => hm hh.1)
  rw [hv]; clear hv
  have Hmb := Lib.hid (mayB_false.2 hm)
  clear hm
  unfold gV
  go_enter Tryz.func87, Tryz.ntmps87
  go_wp2_with fail
  refine (rows_any g (h.alloc _).self).mono ?_
  rintro e w2 ⟨rfl, k2⟩
  have b2 := (Box.new w g _).at k2
  have h2 := (h.alloc _).trans k2
  clear k2 h
  go_wp2_with fail
  go_loopw [7, 12] (fun s i wr => ∃ (n : Nat) (x : Int), n ≤ m ∧ i = .int .i64 n ∧ s = .int .i64 x ∧ At w0 wr ∧ Box wr w.heap.size g) (fun _ i _ => 7 - (intOf i).toNat)
  case atStart => exact ⟨0, 0, by omega, rfl, rfl, h2, b2⟩
  case round =>
    clear h2 b2
    obtain ⟨n, x, hn, rfl, rfl, hr, br⟩ := hrel
    have hn7 : n < 7 := by omega
    have hix := index_row g hn7
    by_cases hlt : n < m
    · have hkk := kind_inj hn7 hm7 hlt
      have BR := Lib.hid br
      clear br
      go_wp2_with fail
      go_roundw
      case rel => exact ⟨n + 1, _, by omega, by go_num, rfl, hr.alloc _, BR.out.alloc _⟩
      case measure => simp [intOf]; omega
    · obtain rfl : n = m := by omega
      have hkk : (kindN n != kindN n) = false := by simp
      have br1 := br.alloc (.cells #[.int .u8 (kindN n), .int .i64 (sizeN n), .int .i64 (manyN g n)] 153)
      have hc0 := br1.c0
      have hc1 := br1.c1
      have hc2 := br1.c2
      go_wp2_with fail
      refine (may_any g (hr.alloc _)).mono ?_
      rintro e w3 ⟨rfl, h3⟩
      rw [Hmb.out]
      clear hc0 hc1 hc2 br1 br
      go_wp2_with fail
      go_ret
      exact ⟨rfl, h3⟩

theorem place_any {w0 w : World} (g : G) (m : Nat) (hm7 : m < 7) (i : Int) (h : At w0 w) :
    Calls Tryz.prog 87 #[gV g, .int .u8 (kindN m), .int .i64 i] w fun e w' => e = .returned (.int .i64 (placeV g m i)) ∧ At w0 w' := by
  by_cases hm : mayP g
  · exact place_yes g m hm7 i hm h
  · exact place_no g m hm7 i hm h

set_option maxHeartbeats 400000 in
theorem area_at {w0 w : World} (g : G) (i : Int) (h : At w0 w) :
    Calls Tryz.prog 41 #[gV g, .int .i64 i] w fun e w' => e = .returned (.int .i64 (placeV g 2 i)) ∧ At w0 w' := by
  unfold gV
  go_enter Tryz.func41, Tryz.ntmps41
  go_wp2_with fail
  refine (place_any g 2 (by decide) i (h.alloc _)).mono ?_
  rintro e w1 ⟨rfl, h1⟩
  go_wp2_with fail
  go_ret
  exact ⟨rfl, h1⟩
set_option maxHeartbeats 400000 in
theorem inode_map_at {w0 w : World} (g : G) (h : At w0 w) :
    Calls Tryz.prog 83 #[gV g] w fun e w' => e = .returned (.int .i64 (placeV g 3 0)) ∧ At w0 w' := by
  unfold gV
  go_enter Tryz.func83, Tryz.ntmps83
  go_wp2_with fail
  refine (place_any g 3 (by decide) 0 (h.alloc _)).mono ?_
  rintro e w1 ⟨rfl, h1⟩
  go_wp2_with fail
  go_ret
  exact ⟨rfl, h1⟩
set_option maxHeartbeats 400000 in
theorem block_map_at {w0 w : World} (g : G) (h : At w0 w) :
    Calls Tryz.prog 84 #[gV g] w fun e w' => e = .returned (.int .i64 (placeV g 4 0)) ∧ At w0 w' := by
  unfold gV
  go_enter Tryz.func84, Tryz.ntmps84
  go_wp2_with fail
  refine (place_any g 4 (by decide) 0 (h.alloc _)).mono ?_
  rintro e w1 ⟨rfl, h1⟩
  go_wp2_with fail
  go_ret
  exact ⟨rfl, h1⟩
set_option maxHeartbeats 400000 in
theorem inode_at {w0 w : World} (g : G) (i : Int) (h : At w0 w) :
    Calls Tryz.prog 85 #[gV g, .int .i64 i] w fun e w' => e = .returned (.int .i64 (placeV g 5 i)) ∧ At w0 w' := by
  unfold gV
  go_enter Tryz.func85, Tryz.ntmps85
  go_wp2_with fail
  refine (place_any g 5 (by decide) i (h.alloc _)).mono ?_
  rintro e w1 ⟨rfl, h1⟩
  go_wp2_with fail
  go_ret
  exact ⟨rfl, h1⟩
set_option maxHeartbeats 400000 in
theorem block_at {w0 w : World} (g : G) (i : Int) (h : At w0 w) :
    Calls Tryz.prog 44 #[gV g, .int .i64 i] w fun e w' => e = .returned (.int .i64 (placeV g 6 i)) ∧ At w0 w' := by
  unfold gV
  go_enter Tryz.func44, Tryz.ntmps44
  go_wp2_with fail
  refine (place_any g 6 (by decide) i (h.alloc _)).mono ?_
  rintro e w1 ⟨rfl, h1⟩
  go_wp2_with fail
  go_ret
  exact ⟨rfl, h1⟩

end Go.Proofs.YtkopfnldgnkkoaaGreat

/-
  A NEW DEVICE: its words.
-/
namespace Go.Proofs.YtkopfnldgnkkoaaGreat
open Go.RowKit

/-- The words of a new device. -/
def fmtL (g : G) : List Int :=
  ((((((((List.replicate (atN g 7).toNat (0 : Int)).set 0 32762617960297063).set 1 g.w).set 2 g.i).set 3 g.b).set (264 + 208 * g.w).toNat 3).set (272 + 208 * g.w).toNat 1).set (296 + 208 * g.w).toNat 2).set (297 + 208 * g.w).toNat 1
theorem fmtL_length (g : G) : (fmtL g).length = (atN g 7).toNat := by simp [fmtL]

/-- What Format of a geometry that may be leaves. -/
def FmtYes (w0 : World) (g : G) (e : Ending) (w' : World) : Prop :=
  ∃ b, e = .returned (.slice (some ⟨b, 0, none⟩) (atN g 7).toNat (atN g 7).toNat) ∧ Row w' b 44 .u64 (fmtL g) ∧ w0.heap.size ≤ b ∧ At w0 w'

theorem Row.at {w w' : World} {g : Nat} {t : TypeId} {k : IntKind} {zs : List Int} (h : Row w g t k zs) (ha : At w w') : Row w' g t k zs := h.below ha.b h.lt
theorem Box.set {w : World} {b : Nat} {g : G} (h : Box w b g) {a : Addr} (ha : a.block ≠ b) (v : Value) : Box (w.setCell a v) b g :=
  ⟨(World.cell?_setCell_other w a _ v (fun e => ha (by rw [e]))).trans h.c0, (World.cell?_setCell_other w a _ v (fun e => ha (by rw [e]))).trans h.c1, (World.cell?_setCell_other w a _ v (fun e => ha (by rw [e]))).trans h.c2⟩
theorem At.set {w0 w : World} (h : At w0 w) {a : Addr} (ha : w0.heap.size ≤ a.block) (v : Value) : At w0 (w.setCell a v) := ⟨h.b.setCell ha v⟩

/-- The device's words b, the box, the base. -/
structure Fm (w0 w : World) (bx b : Nat) (g : G) (zs : List Int) : Prop where
  r : Row w b 44 .u64 zs
  x : Box w bx g
  a : At w0 w
  ge : w0.heap.size ≤ b
  ne : b ≠ bx
theorem Fm.set {w0 w : World} {bx b : Nat} {g : G} {zs : List Int} (h : Fm w0 w bx b g zs) (j : Nat) (v : Int) : Fm w0 (w.setCell ⟨b, j, none⟩ (.int .u64 v)) bx b g (zs.set j v) :=
  ⟨h.r.set j v, h.x.set h.ne _, h.a.set h.ge _, h.ge, h.ne⟩
theorem Fm.at {w0 w w' : World} {bx b : Nat} {g : G} {zs : List Int} (h : Fm w0 w bx b g zs) (k : At w w') : Fm w0 w' bx b g zs := ⟨h.r.at k, h.x.at k, h.a.trans k, h.ge, h.ne⟩

end Go.Proofs.YtkopfnldgnkkoaaGreat

/-
  THE WALK OF layout.Format.
-/
namespace Go.Proofs.YtkopfnldgnkkoaaGreat
open Go.RowKit

theorem splice4 (zs : List Int) (a b c d : Int) (h : 4 ≤ zs.length) : spliceI zs 0 [a, b, c, d] = (((zs.set 0 a).set 1 b).set 2 c).set 3 d := by
  rw [splice_cons _ _ _ _ (by omega), splice_cons _ _ _ _ (by simp; omega), splice_cons _ _ _ _ (by simp; omega), splice_cons _ _ _ _ (by simp; omega), splice_nil]
theorem splice2 (zs : List Int) (off : Nat) (a b : Int) (h : off + 2 ≤ zs.length) : spliceI zs off [a, b] = (zs.set off a).set (off + 1) b := by
  rw [splice_cons _ _ _ _ (by omega), splice_cons _ _ _ _ (by simp; omega), splice_nil]

theorem fm_copy {w0 w w' : World} {bx b : Nat} {g : G} {zs ys : List Int} (h : Fm w0 w bx b g zs) (o : Obj) (hr : Row w' b 44 .u64 ys) (hb : Below b (w.alloc o) w') (hx : bx < b) : Fm w0 w' bx b g ys := by
  have hb' : Below b w w' := ((Below.refl _ w).alloc (Nat.le_of_lt h.r.lt) o).trans hb
  exact ⟨hr, ⟨(hb'.cell (p := ⟨bx, 0, none⟩) hx).trans h.x.c0, (hb'.cell (p := ⟨bx, 1, none⟩) hx).trans h.x.c1, (hb'.cell (p := ⟨bx, 2, none⟩) hx).trans h.x.c2⟩, ⟨h.a.b.trans (hb'.mono h.ge)⟩, h.ge, h.ne⟩

set_option maxRecDepth 100000 in
set_option maxHeartbeats 4000000 in
theorem format_yes {w0 w : World} (g : G) (hm : mayP g) (h : At w0 w) : Calls Tryz.prog 34 #[gV g] w (FmtYes w0 g) := by
  have Hmb := Lib.hid (mayB_true.2 hm)
  obtain ⟨N, hN⟩ : ∃ N : Nat, (atN g 7).toNat = N := ⟨_, rfl⟩
  have hw : wordsV g = (N : Int) := (if_pos hm).trans (by have := (at_bd hm 7).1; omega)
  have HWd := Lib.hid hw
  clear hw
  have HP3 := Lib.hid (show placeV g 3 0 = 264 + 208 * g.w from (if_pos ⟨hm, by decide, by simp only [manyN]; decide⟩ : placeV g 3 0 = atN g 3 + sizeN 3 * 0).trans (by simp only [atN, sizeN]; omega))
  have HP4 := Lib.hid (show placeV g 4 0 = 272 + 208 * g.w from (if_pos ⟨hm, by decide, by simp only [manyN]; decide⟩ : placeV g 4 0 = atN g 4 + sizeN 4 * 0).trans (by simp only [atN, sizeN]; omega))
  have HP5 := Lib.hid (show placeV g 5 1 = 296 + 208 * g.w from (if_pos ⟨hm, by decide, by simp only [manyN]; have := hm.2.2.1; omega⟩ : placeV g 5 1 = atN g 5 + sizeN 5 * 1).trans (by simp only [atN, sizeN]; omega))
  have hn7 : (N : Int) = 280 + 208 * g.w + 16 * g.i + 8 * g.b := by
    obtain ⟨g1, g2, g3, g4, g5, g6⟩ := hm
    rw [← hN]; simp only [atN]; omega
  obtain ⟨g1, g2, g3, g4, g5, g6⟩ := hm
  have hlen : N ≤ 6232 := by omega
  have hlo : 312 + 208 * g.w ≤ (N : Int) := by omega
  have HN := Lib.hid hN
  clear hn7 hN
  obtain ⟨i0, hi, hz0, hz1, hz2⟩ := info_parts info_u64
  obtain ⟨G1, hG1⟩ : ∃ n : Nat, g.w = (n : Int) := Int.eq_ofNat_of_zero_le (by omega)
  have HG := Lib.hid hG1
  have gg1 : G1 ≤ 4 := by omega
  have gg2 : 312 + 208 * G1 ≤ N := by omega
  clear hG1
  have hsz1 : (Tryz.prog.info? 44).map (·.size) = some 1 := by rw [hi]; simp [hz1]
  unfold gV
  go_enter Tryz.func34, Tryz.ntmps34
  go_wp2_with fail
  refine (may_any g (h.alloc _).self).mono ?_
  rintro e w1 ⟨rfl, k1⟩
  have b1 := (Box.new w g _).at k1
  have h1 := (h.alloc _).trans k1
  have hlt1 : w.heap.size < w1.heap.size := (cell_lt b1.c0).1
  rw [Hmb.out]
  clear k1
  have hc0 := b1.c0
  have hc1 := b1.c1
  have hc2 := b1.c2
  go_wp2_with fail
  refine (lwords_any g h1.self).mono ?_
  rintro e w2 ⟨rfl, k2⟩
  have b2 := b1.at k2
  have h2 := h1.trans k2
  have hlt2 : w.heap.size < w2.heap.size := (cell_lt b2.c0).1
  rw [HWd.out]
  clear k2 hc0 hc1 hc2 b1 h1 hlt1
  go_upto_region 4 with (at_make; (refine wpList_make_ints rfl _ _ 33 rfl w0.heap.size 44 i0 .u64 Tryz.underlying33 hi hz0 hz1 N rfl rfl (by rw [hz2]; omega) (by unfold maxLen; omega) h2.b.size ?_; intro w3 hr3 hg3; have fm : Fm w0 w3 w.heap.size w2.heap.size g (List.replicate N 0) := ⟨hr3, b2.at ⟨Below.of_grown hg3⟩, h2.trans ⟨Below.of_grown hg3⟩, h2.b.size, by omega⟩; have hl : (List.replicate N (0 : Int)).length = N := (by simp); generalize hLL : List.replicate N (0 : Int) = L0 at fm hl; have HL := Lib.hid hLL; clear hLL; have HLn := Lib.hid hl; clear hl hr3 hg3 b2 h2; have hd0 := fm.x.c0; have hd1 := fm.x.c1; have hd2 := fm.x.c2))
  go_wp2_with (refine wpList_copy_ints rfl (.tmp 10) (.tmp 20) 33 33 rfl 44 Tryz.underlying33 hsz1 (some ⟨w2.heap.size, 0, none⟩) (some ⟨w3.heap.size, 0, none⟩) N N 4 4 rfl rfl w2.heap.size 0 rfl 44 .u64 L0 (fm.r.alloc _) [32762617960297063, g.w, g.i, g.b] (w3.heap.size + 1) ?c0 rfl ?c1 ?c2 ?c3; (case c0 => (exact .inr ⟨_, 0, rfl, Nat.lt_succ_self _, by intro j hj; rw [Nat.zero_add, World.cell?_alloc_new]; simp at hj; match j, hj with | 0, _ => rfl | 1, _ => rfl | 2, _ => rfl | 3, _ => rfl⟩)); (case c1 => omega); (case c2 => (have := HLn.out; omega)); intro w4 hr4 hb4; clear hd0 hd1 hd2; rw [splice4 _ _ _ _ _ (by have := HLn.out; omega)] at hr4; replace fm : Fm w0 w4 w.heap.size w2.heap.size g _ := fm_copy fm _ hr4 hb4 hlt2; clear hr4 hb4; have hd0 := fm.x.c0; have hd1 := fm.x.c1; have hd2 := fm.x.c2)
  refine (inode_map_at g fm.a.self).mono ?_
  rintro e w5 ⟨rfl, k⟩
  replace fm := fm.at k
  rw [HP3.out]
  clear k hd0 hd1 hd2
  have hd0 := fm.x.c0
  have hd1 := fm.x.c1
  have hd2 := fm.x.c2
  have hcc := fm.r.cellD (j := (264 + 208 * g.w).toNat) (by have := HLn.out; (try simp only [List.length_set]); omega)
  have hff := fm.r.frozen (264 + 208 * g.w).toNat
  go_upto_region 6 with (fail)
  replace fm := fm.set (264 + 208 * g.w).toNat 3
  generalize (World.setCell _ ⟨w2.heap.size, (264 + 208 * g.w).toNat, none⟩ (.int .u64 3)) = w6 at *
  clear hcc hff hd0 hd1 hd2
  have hd0 := fm.x.c0
  have hd1 := fm.x.c1
  have hd2 := fm.x.c2
  go_wp2_with fail
  refine (block_map_at g fm.a.self).mono ?_
  rintro e w7 ⟨rfl, k⟩
  replace fm := fm.at k
  rw [HP4.out]
  clear k hd0 hd1 hd2
  have hd0 := fm.x.c0
  have hd1 := fm.x.c1
  have hd2 := fm.x.c2
  have hcc := fm.r.cellD (j := (272 + 208 * g.w).toNat) (by have := HLn.out; (try simp only [List.length_set]); omega)
  have hff := fm.r.frozen (272 + 208 * g.w).toNat
  go_upto_region 7 with (fail)
  replace fm := fm.set (272 + 208 * g.w).toNat 1
  generalize (World.setCell _ ⟨w2.heap.size, (272 + 208 * g.w).toNat, none⟩ (.int .u64 1)) = w8 at *
  clear hcc hff hd0 hd1 hd2
  have hd0 := fm.x.c0
  have hd1 := fm.x.c1
  have hd2 := fm.x.c2
  go_wp2_with fail
  refine (inode_at g 1 fm.a.self).mono ?_
  rintro e w9 ⟨rfl, k⟩
  replace fm := fm.at k
  rw [HP5.out]
  clear k hd0 hd1 hd2
  have hd0 := fm.x.c0
  have hd1 := fm.x.c1
  have hd2 := fm.x.c2
  go_wp2_with (refine wpList_copy_ints rfl (.tmp 33) (.tmp 34) 33 33 rfl 44 Tryz.underlying33 hsz1 (some ⟨w2.heap.size, (296 + 208 * g.w).toNat, none⟩) (some ⟨w9.heap.size, 0, none⟩) (N - (296 + 208 * g.w).toNat) (N - (296 + 208 * g.w).toNat) 2 2 rfl rfl w2.heap.size (296 + 208 * g.w).toNat rfl 44 .u64 _ (fm.r.alloc _) [2, 1] (w9.heap.size + 1) ?e0 rfl ?e1 ?e2 ?e3; (case e0 => (exact .inr ⟨_, 0, rfl, Nat.lt_succ_self _, by intro j hj; rw [Nat.zero_add, World.cell?_alloc_new]; simp at hj; match j, hj with | 0, _ => rfl | 1, _ => rfl⟩)); (case e1 => omega); (case e2 => (have := HLn.out; simp only [List.length_set]; omega)); intro w10 hr4 hb4; clear hd0 hd1 hd2; rw [splice2 _ _ _ _ (by have := HLn.out; simp only [List.length_set]; omega)] at hr4; replace fm : Fm w0 w10 w.heap.size w2.heap.size g _ := fm_copy fm _ hr4 hb4 hlt2; clear hr4 hb4)
  go_ret
  refine ⟨w2.heap.size, by rw [HN.out]; rfl, ?_, fm.ge, fm.a⟩
  have hr := fm.r
  rw [← HL.out, show (296 + 208 * g.w).toNat + 1 = (297 + 208 * g.w).toNat by omega] at hr
  unfold fmtL
  rw [HN.out]
  exact hr

/-- Of a geometry that may not be: nothing. -/
def FmtNo (w0 : World) (e : Ending) (w' : World) : Prop := e = .returned (.slice none 0 0) ∧ At w0 w'
set_option maxHeartbeats 400000 in
theorem format_no {w0 w : World} (g : G) (hm : ¬ mayP g) (h : At w0 w) : Calls Tryz.prog 34 #[gV g] w (FmtNo w0) := by
  have Hmb := Lib.hid (mayB_false.2 hm)
  clear hm
  unfold gV
  go_enter Tryz.func34, Tryz.ntmps34
  go_wp2_with fail
  refine (may_any g (h.alloc _)).mono ?_
  rintro e w1 ⟨rfl, h1⟩
  rw [Hmb.out]
  go_wp2_with fail
  go_ret
  exact ⟨rfl, h1⟩

end Go.Proofs.YtkopfnldgnkkoaaGreat
