/-
  THE WALK OF the law LayoutNew.
-/
import Derived.Test.YteaokdkfpafmaaaDoorLayT
namespace Go.Proofs.YteaokdkfpafmaaaDoor
open Go.RowKit

def cntL (zs : List Int) : Nat := zs.countP (fun x => x != 0)
theorem cnt_set {zs : List Int} {i : Nat} {x : Int} (h : i < zs.length) (h0 : zs[i]?.getD 0 = 0) (hx : x ≠ 0) : cntL (zs.set i x) = cntL zs + 1 := by
  unfold cntL
  have h0' : zs[i] = 0 := by simpa [h] using h0
  rw [List.countP_set h]
  simp [h0', hx]
theorem get_set_ne {zs : List Int} {i j : Nat} (x : Int) (h : i ≠ j) : (zs.set i x)[j]?.getD (0 : Int) = zs[j]?.getD 0 := by rw [List.getElem?_set_ne h]
theorem get_set_eq {zs : List Int} {i : Nat} (x : Int) (h : i < zs.length) : (zs.set i x)[i]?.getD (0 : Int) = x := by simp [h]
theorem get_rep (N j : Nat) : (List.replicate N (0 : Int))[j]?.getD 0 = 0 := by
  by_cases h : j < N <;> simp [h]
theorem cnt_rep (N : Nat) : cntL (List.replicate N (0 : Int)) = 0 := by simp [cntL, List.countP_replicate]
theorem cnt_take {zs : List Int} {k : Nat} (h : k < zs.length) : cntL (zs.take (k + 1)) = cntL (zs.take k) + if (zs[k]?.getD 0 != 0) = true then 1 else 0 := by
  unfold cntL
  rw [List.take_succ_eq_append_getElem h, List.countP_append]
  simp [h]
theorem cnt_le (zs : List Int) : cntL zs ≤ zs.length := List.countP_le_length

theorem fmt_cnt {g : G} (hm : mayP g) : cntL (fmtL g) = 8 := by
  obtain ⟨g1, g2, g3, g4, g5, g6⟩ := hm
  obtain ⟨N, hN⟩ : ∃ N : Nat, (atN g 7).toNat = N := ⟨_, rfl⟩
  have h5 : 299 + 208 * g.w ≤ N := by have : atN g 7 = 280 + 208 * g.w + 16 * g.i + 8 * g.b := rfl; omega
  obtain ⟨p1, e1⟩ : ∃ p : Nat, (264 + 208 * g.w).toNat = p := ⟨_, rfl⟩
  obtain ⟨p2, e2⟩ : ∃ p : Nat, (272 + 208 * g.w).toNat = p := ⟨_, rfl⟩
  obtain ⟨p3, e3⟩ : ∃ p : Nat, (296 + 208 * g.w).toNat = p := ⟨_, rfl⟩
  obtain ⟨p4, e4⟩ : ∃ p : Nat, (297 + 208 * g.w).toNat = p := ⟨_, rfl⟩
  unfold fmtL
  rw [hN, e1, e2, e3, e4]
  have w0 : g.w ≠ 0 := by omega
  have i0 : g.i ≠ 0 := by omega
  have b0 : g.b ≠ 0 := by omega
  have q1 : 4 ≤ p1 ∧ p1 < p2 ∧ p2 < p3 ∧ p3 < p4 ∧ p4 < N := by omega
  clear e1 e2 e3 e4 h5 g1 g2 g3 g4 g5 g6 hN
  repeat rw [cnt_set (by simp; omega) (by
    repeat rw [get_set_ne _ (by omega)]
    exact get_rep _ _) (by first | assumption | decide)]
  rw [cnt_rep]

/-- What the map's and the root's words hold. -/
theorem fmt_at {g : G} (hm : mayP g) {p1 p2 p3 : Nat} (e1 : 264 + 208 * g.w = (p1 : Int)) (e2 : 272 + 208 * g.w = (p2 : Int)) (e3 : 296 + 208 * g.w = (p3 : Int)) :
    (fmtL g)[p1]?.getD 0 = 3 ∧ (fmtL g)[p2]?.getD 0 = 1 ∧ (fmtL g)[p3]?.getD 0 = 2 ∧ (fmtL g)[p3 + 1]?.getD 0 = 1 := by
  obtain ⟨g1, g2, g3, g4, g5, g6⟩ := hm
  obtain ⟨N, hN⟩ : ∃ N : Nat, (atN g 7).toNat = N := ⟨_, rfl⟩
  have h5 : 299 + 208 * g.w ≤ N := by have : atN g 7 = 280 + 208 * g.w + 16 * g.i + 8 * g.b := rfl; omega
  unfold fmtL
  rw [hN, show (264 + 208 * g.w).toNat = p1 by omega, show (272 + 208 * g.w).toNat = p2 by omega, show (296 + 208 * g.w).toNat = p3 by omega, show (297 + 208 * g.w).toNat = p3 + 1 by omega]
  have q1 : 4 ≤ p1 ∧ p1 < p2 ∧ p2 < p3 ∧ p3 + 1 < N := by omega
  clear e1 e2 e3 h5 g1 g2 g3 g4 g5 g6 hN
  refine ⟨?_, ?_, ?_, ?_⟩
  · rw [get_set_ne _ (by omega), get_set_ne _ (by omega), get_set_ne _ (by omega), get_set_eq _ (by simp; omega)]
  · rw [get_set_ne _ (by omega), get_set_ne _ (by omega), get_set_eq _ (by simp; omega)]
  · rw [get_set_ne _ (by omega), get_set_eq _ (by simp; omega)]
  · rw [get_set_eq _ (by simp; omega)]

/-- One word less tells nothing. -/
theorem of_fmt_cut {g : G} (hm : mayP g) : ofR ((fmtL g).take ((fmtL g).length - 1)) = .tuple #[.agg #[.int .i64 0, .int .i64 0, .int .i64 0], .bool false] := by
  obtain ⟨_, a1, a2, a3⟩ := fmt_get hm
  have hl := fmtL_length g
  have h5 : 500 ≤ (atN g 7).toNat := by obtain ⟨g1, g2, g3, g4, g5, g6⟩ := hm; have : atN g 7 = 280 + 208 * g.w + 16 * g.i + 8 * g.b := rfl; omega
  have hg : ∀ j, j < 4 → ((fmtL g).take ((fmtL g).length - 1))[j]?.getD (0 : Int) = (fmtL g)[j]?.getD 0 := fun j hj => by rw [List.getElem?_take_of_lt (by omega)]
  have hG : ofG ((fmtL g).take ((fmtL g).length - 1)) = g := by unfold ofG; rw [hg 1 (by decide), hg 2 (by decide), hg 3 (by decide), a1, a2, a3]
  refine of_no fun hh => ?_
  have := hh.2.2.2.2.2.2
  rw [hG, show wordsV g = atN g 7 from if_pos hm, List.length_take] at this
  omega

set_option maxRecDepth 100000 in
theorem walk_new_long (a b c : Nat) (a3 : Option Addr) (len3 cap3 : Nat) (hg : 1000 < len3) (hmr : len3 * 8 ≤ 140737488351232) (w : World) (hl : Least w) :
    Calls Tryd.prog 6 #[.int .u16 (a : Int), .int .u16 (b : Int), .int .u16 (c : Int), .slice a3 len3 cap3] w fun e w' => e = .returned (.bool true) ∧ Below w.heap.size w w' := by
  have h := At.refl hl
  have hd : decide (1000 < (len3 : Int)) = true := by simp; omega
  go_enter Tryd.func6, Tryd.ntmps6
  go_wp2_with fail
  refine (works_any h).mono ?_
  rintro e w8 ⟨rfl, h8⟩
  go_wp2_with fail
  go_ret
  exact ⟨rfl, h8.b⟩

set_option maxRecDepth 100000 in
set_option maxHeartbeats 8000000 in
theorem walk_new (a b c : Nat) (ha : a ≤ 65535) (hb : b ≤ 65535) (hc : c ≤ 65535) (a3 : Option Addr) (len3 cap3 : Nat) (ys : List Int) (hlr : ys.length = len3) (hmr : len3 * 8 ≤ 140737488351232) (hur : ∀ n ∈ ys, isU64 n) (hg : ¬ 1000 < len3) (w : World) (hl : Least w) (hIr : Ints w.heap.size .u64 w a3 ys) :
    Calls Tryd.prog 6 #[.int .u16 (a : Int), .int .u16 (b : Int), .int .u16 (c : Int), .slice a3 len3 cap3] w fun e w' => e = .returned (.bool true) ∧ Below w.heap.size w w' := by
  have hd : decide (1000 < (len3 : Int)) = false := by simp; omega
  have h := At.refl hl
  have hm := small_may a b c
  have HS := Lib.hid (small_any a b c ha hb hc (At.refl hl))
  obtain ⟨g, hgg⟩ : ∃ g, smallG a b c = g := ⟨_, rfl⟩
  rw [hgg] at hm HS
  clear hgg
  have HM := Lib.hid hm
  have HLR := Lib.hid hlr
  have HUR := Lib.hid hur
  clear hlr hur
  obtain ⟨N, hN⟩ : ∃ N : Nat, (atN g 7).toNat = N := ⟨_, rfl⟩
  have hN2 : atN g 7 = (N : Int) := by have := (at_bd hm 7).1; omega
  have HN := Lib.hid hN
  have HWd := Lib.hid (show wordsV g = (N : Int) from (if_pos hm).trans hN2)
  obtain ⟨p1, e1⟩ : ∃ p : Nat, 264 + 208 * g.w = (p : Int) := ⟨(264 + 208 * g.w).toNat, by have := hm.1; omega⟩
  obtain ⟨p2, e2⟩ : ∃ p : Nat, 272 + 208 * g.w = (p : Int) := ⟨(272 + 208 * g.w).toNat, by have := hm.1; omega⟩
  obtain ⟨p3, e3⟩ : ∃ p : Nat, 296 + 208 * g.w = (p : Int) := ⟨(296 + 208 * g.w).toNat, by have := hm.1; omega⟩
  have HP1 := Lib.hid (show placeV g 3 0 = (p1 : Int) from (if_pos ⟨hm, by decide, by simp only [manyN]; decide⟩ : placeV g 3 0 = atN g 3 + sizeN 3 * 0).trans (by simp only [atN, sizeN]; omega))
  have HP2 := Lib.hid (show placeV g 4 0 = (p2 : Int) from (if_pos ⟨hm, by decide, by simp only [manyN]; decide⟩ : placeV g 4 0 = atN g 4 + sizeN 4 * 0).trans (by simp only [atN, sizeN]; omega))
  have HP3 := Lib.hid (show placeV g 5 1 = (p3 : Int) from (if_pos ⟨hm, by decide, by have := hm.2.2.1; simp only [manyN]; omega⟩ : placeV g 5 1 = atN g 5 + sizeN 5 * 1).trans (by simp only [atN, sizeN]; omega))
  obtain ⟨zs, hzs⟩ : ∃ zs, fmtL g = zs := ⟨_, rfl⟩
  have hll : zs.length = N := by rw [← hzs, fmtL_length, hN]
  have HFA := Lib.hid (fmt_at hm e1 e2 e3)
  have HCN := Lib.hid (fmt_cnt hm)
  have HCT := Lib.hid (of_fmt_cut hm)
  have HOF := Lib.hid (of_fmt hm ys)
  have HUL := Lib.hid (fmt_wf hm)
  rw [hzs] at HFA HCN HCT HOF HUL
  have HLL := Lib.hid hll
  have hNb : 500 ≤ N ∧ N ≤ 6232 ∧ p1 < p2 ∧ p2 < p3 ∧ p3 + 1 < N := by
    obtain ⟨g1, g2, g3, g4, g5, g6⟩ := hm
    have : atN g 7 = 280 + 208 * g.w + 16 * g.i + 8 * g.b := rfl
    omega
  have HZ := Lib.hid hzs
  obtain ⟨hN3, hN4, hp1, hp2, hp3⟩ := hNb
  clear hN hN2 hzs hll hm e1 e2 e3
  obtain ⟨i0, hi, hz0, hz1, hz2⟩ := info_parts info_u64
  go_enter Tryd.func6, Tryd.ntmps6
  go_wp2_with fail
  refine HS.out.mono ?_
  rintro e w1 ⟨rfl, h1⟩
  clear HS h
  unfold gV
  have bx := Box.new w1 g 23
  have h := h1.alloc (.cells #[.int .i64 g.w, .int .i64 g.i, .int .i64 g.b] 23)
  go_upto_region 4 with (fail)
  generalize (w1.alloc (.cells #[.int .i64 g.w, .int .i64 g.i, .int .i64 g.b] 23)) = w2 at *
  obtain ⟨B, hB⟩ : ∃ B, w1.heap.size = B := ⟨_, rfl⟩
  rw [hB] at bx
  simp only [hB]
  clear hB h1
  have hc0 := bx.c0
  have hc1 := bx.c1
  have hc2 := bx.c2
  go_wp2_with fail
  refine (format_yes g HM.out h.self).mono ?_
  rintro e w3 ⟨L, rfl, hr, _, k'⟩
  rw [HN.out]
  rw [HZ.out] at hr
  replace h := h.trans k'
  replace bx := bx.at k'
  clear k' hc0 hc1 hc2
  go_wp2_with fail
  go_loopw [11, 12] (fun f j wr => ∃ t : Nat, t ≤ N ∧ j = .int .i64 t ∧ f = .int .i64 (cntL (zs.take t) : Nat) ∧ At w wr ∧ Box wr B g ∧ Row wr L 42 .u64 zs) (fun _ j _ => N - (intOf j).toNat)
  case atStart => exact ⟨0, by omega, rfl, rfl, h, bx, hr⟩
  case round =>
    clear h bx hr
    obtain ⟨t, ht, rfl, rfl, h, bx, hr⟩ := hrel
    by_cases hlt : t < N
    · have HT := Lib.hid (cnt_take (zs := zs) (k := t) (by rw [HLL.out]; exact hlt))
      have hx := hr.cellD (j := t) (by rw [HLL.out]; exact hlt)
      have hcl : cntL (zs.take t) ≤ t := Nat.le_trans (cnt_le _) (by simp; omega)
      obtain ⟨x, hxx⟩ : ∃ x : Int, zs[t]?.getD 0 = x := ⟨_, rfl⟩
      rw [hxx] at hx HT
      clear hxx
      obtain ⟨C, hC⟩ : ∃ C : Nat, cntL (zs.take t) = C := ⟨_, rfl⟩
      rw [hC] at HT hcl
      simp only [hC]
      clear hC
      cases hb : (x != 0)
      · go_wp2_with fail
        go_roundw
        case rel => exact ⟨t + 1, by omega, by go_num, by rw [HT.out, hb]; go_num, h, bx, hr⟩
        case measure => simp [intOf]; omega
      · go_wp2_with fail
        go_roundw
        case rel => exact ⟨t + 1, by omega, by go_num, by rw [HT.out, hb]; go_num, h, bx, hr⟩
        case measure => simp [intOf]; omega
    · have ht2 : N ≤ t := by omega
      rw [show cntL (zs.take t) = 8 by rw [List.take_of_length_le (by rw [HLL.out]; exact ht2)]; exact HCN.out]
      have hc0 := bx.c0
      have hc1 := bx.c1
      have hc2 := bx.c2
      go_wp2_with fail
      refine (words_any g h.self).mono ?_
      rintro e w4 ⟨rfl, k'⟩
      rw [HWd.out]
      replace h := h.trans k'
      replace bx := bx.at k'
      replace hr := hr.at k'
      clear k' hc0 hc1 hc2
      have hc0 := bx.c0
      have hc1 := bx.c1
      have hc2 := bx.c2
      go_wp2_with fail
      refine (inode_at g 1 h.self).mono ?_
      rintro e w5 ⟨rfl, k'⟩
      rw [HP3.out]
      replace h := h.trans k'
      replace bx := bx.at k'
      replace hr := hr.at k'
      clear k' hc0 hc1 hc2
      have hc0 := bx.c0
      have hc1 := bx.c1
      have hc2 := bx.c2
      go_wp2_with fail
      refine (inode_map_at g h.self).mono ?_
      rintro e w5 ⟨rfl, k'⟩
      rw [HP1.out]
      replace h := h.trans k'
      replace bx := bx.at k'
      replace hr := hr.at k'
      clear k' hc0 hc1 hc2
      have hc0 := bx.c0
      have hc1 := bx.c1
      have hc2 := bx.c2
      go_wp2_with fail
      refine (block_map_at g h.self).mono ?_
      rintro e w5 ⟨rfl, k'⟩
      rw [HP2.out]
      replace h := h.trans k'
      replace bx := bx.at k'
      replace hr := hr.at k'
      clear k' hc0 hc1 hc2
      have m1 := hr.cellD (j := p1) (by rw [HLL.out]; omega)
      have m2 := hr.cellD (j := p2) (by rw [HLL.out]; omega)
      have m3 := hr.cellD (j := p3) (by rw [HLL.out]; omega)
      have m4 := hr.cellD (j := p3 + 1) (by rw [HLL.out]; omega)
      rw [HFA.out.1] at m1
      rw [HFA.out.2.1] at m2
      rw [HFA.out.2.2.1] at m3
      rw [HFA.out.2.2.2] at m4
      go_upto_region 18 with (fail)
      clear m1 m2 m3 m4
      have hIz := hr.ints
      have hw0 := h.b.size
      go_wp2_with (first
        | (at_builtin; refine wpList_append_ints _ rfl (.tmp 110) (.tmp 111) 38 rfl w5.heap.size 42 i0 (.int .u64 0) 8 Tryd.underlying38 hi hz0 hz1 hz2 rfl _ 0 [] rfl (World.ownsRow_made _ #[] 0 (Nat.le_refl _) (Nat.zero_le _) (by simp)) (some ⟨L, 0, none⟩) N N .u64 zs w5.heap.size rfl HLL.out (hIz.below ((Below.refl _ w5).alloc (Nat.le_refl _) _)) (by unfold maxLen; omega) (by omega) (by simp) ?_; intro v1 W1 hown1 hgrow1; have hb1 : Below w5.heap.size w5 W1 := ((Below.refl _ w5).alloc (Nat.le_refl _) _).grown hgrow1 (by simp) (fun k e => by cases e; exact Nat.le_refl _); clear hgrow1; simp only [Nat.zero_add, List.nil_append] at hown1; have hs1 := hb1.size)
        | (at_builtin; refine wpList_append_ints _ rfl (.tmp 112) (.tmp 113) 38 rfl w5.heap.size 42 i0 (.int .u64 0) 8 Tryd.underlying38 hi hz0 hz1 hz2 rfl _ _ _ rfl hown1 a3 len3 cap3 .u64 ys w.heap.size rfl HLR.out (hIr.below (h.b.trans (hb1.mono hw0))) (by unfold maxLen; omega) (by omega) hs1 ?_; intro v2 W2 hown2 hgrow2; have hb2 : Below w5.heap.size w5 W2 := Below.grownRow hb1 hgrow2 hs1 hown1 (Nat.le_refl _); clear hgrow2; rw [← List.map_append] at hown2; obtain ⟨a2, c2, rfl, hl2, hI2⟩ := Ints.of_owns hown2))
      have k6 : At w5 W2 := ⟨hb2, h.least⟩
      replace h : At w W2 := h.trans k6
      replace bx := bx.at k6
      replace hr := hr.at k6
      clear k6 hown1 hown2 hb1 hb2 hs1 hIz hi hz0 hz1 hz2 hw0
      refine (of_any (w0 := W2) _ _ _ (zs ++ ys) hl2 (by omega) (fun n hn => (List.mem_append.1 hn).elim (HUL.out n) (HUR.out n)) hI2 h.self).mono ?_
      rintro e w6 ⟨rfl, k'⟩
      rw [HOF.out]
      replace h := h.trans k'
      replace bx := bx.at k'
      replace hr := hr.at k'
      clear k' hI2 hl2
      go_upto_region 19 with (fail)
      have by_ := Box.new w6 g 23
      replace bx := bx.alloc (.cells #[.int .i64 g.w, .int .i64 g.i, .int .i64 g.b] 23)
      replace hr := hr.alloc (.cells #[.int .i64 g.w, .int .i64 g.i, .int .i64 g.b] 23)
      replace h := h.alloc (.cells #[.int .i64 g.w, .int .i64 g.i, .int .i64 g.b] 23)
      obtain ⟨Y, hY⟩ : ∃ Y, w6.heap.size = Y := ⟨_, rfl⟩
      rw [hY] at by_
      simp only [hY]
      generalize (w6.alloc (.cells #[.int .i64 g.w, .int .i64 g.i, .int .i64 g.b] 23)) = w7 at *
      clear hY
      go_wp2_with fail
      refine (of_any (w0 := w7) _ _ _ (zs.take (zs.length - 1)) (by have := HLL.out; simp; omega) (by omega) (fun n hn => HUL.out n (List.mem_of_mem_take hn)) (hr.ints.take _) h.self).mono ?_
      rintro e w8 ⟨rfl, k'⟩
      rw [HCT.out]
      replace h := h.trans k'
      replace bx := bx.at k'
      replace by_ := by_.at k'
      clear k' hr
      have hc0 := bx.c0
      have hc1 := bx.c1
      have hc2 := bx.c2
      have hy0 := by_.c0
      have hy1 := by_.c1
      have hy2 := by_.c2
      have hBs := (cell_lt hc0).1
      have hYs := (cell_lt hy0).1
      go_wp2_with fail
      refine (works_any (h.alloc _)).mono ?_
      rintro e w9 ⟨rfl, h9⟩
      go_wp2_with fail
      go_ret
      exact ⟨rfl, h9.b⟩

end Go.Proofs.YteaokdkfpafmaaaDoor
