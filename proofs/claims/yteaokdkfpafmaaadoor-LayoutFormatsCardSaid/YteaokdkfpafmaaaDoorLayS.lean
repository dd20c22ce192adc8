/-
  THE WALK OF the law LayoutFormats, of a geometry that may be.
-/
import Derived.Test.YteaokdkfpafmaaaDoorLayR
namespace Go.Proofs.YteaokdkfpafmaaaDoor
open Go.RowKit

theorem wrap_isU64 (n : Int) : isU64 (IntKind.u64.wrap n) := by
  have : IntKind.u64.wrap n = n % 18446744073709551616 := by simp [IntKind.wrap, IntKind.bits, IntKind.signed]
  rw [this]; unfold isU64; omega

set_option maxRecDepth 100000 in
set_option maxHeartbeats 8000000 in
theorem walk_formats_yes (g : G) (hm : mayP g) (a1 : Option Addr) (len1 cap1 : Nat) (raw : List Int) (hlr : raw.length = len1) (hmr : len1 * 8 ≤ 140737488351232) (hur : ∀ n ∈ raw, isU64 n) (m y : Nat) (hm6 : m ≤ 65535) (hy6 : y ≤ 65535) (hg : ¬ 1000 < len1) (w : World) (hl : Least w) (hIr : Ints w.heap.size .u64 w a1 raw) :
    Calls Tryd.prog 5 #[gV g, .slice a1 len1 cap1, .int .u16 (m : Int), .int .u16 (y : Int)] w fun e w' => e = .returned (.bool true) ∧ Below w.heap.size w w' := by
  have hd : decide (1000 < (len1 : Int)) = false := by simp; omega
  have h := At.refl hl
  have HLR := Lib.hid hlr
  clear hlr
  obtain ⟨N, hN⟩ : ∃ N : Nat, (atN g 7).toNat = N := ⟨_, rfl⟩
  have hNb : 500 ≤ N ∧ N ≤ 6232 := by
    have := at_bd hm 7
    obtain ⟨g1, g2, g3, g4, g5, g6⟩ := hm
    have : atN g 7 = 280 + 208 * g.w + 16 * g.i + 8 * g.b := rfl
    omega
  obtain ⟨zs, hzs⟩ : ∃ zs, fmtL g = zs := ⟨_, rfl⟩
  have hll : zs.length = N := by rw [← hzs, fmtL_length, hN]
  have hul : ∀ n ∈ zs, isU64 n := by rw [← hzs]; exact fmt_wf hm
  have HLL := Lib.hid hll
  have HUL := Lib.hid hul
  have HN := Lib.hid hN
  have HZ := Lib.hid hzs
  have HM := Lib.hid hm
  clear hll hul hN hzs hm
  obtain ⟨i0, hi, hz0, hz1, hz2⟩ := info_parts info_u64
  unfold gV
  go_enter Tryd.func5, Tryd.ntmps5
  go_wp2_with fail
  have b1 := (Box.new w g 23).alloc (.cells #[.int .i64 g.w, .int .i64 g.i, .int .i64 g.b] 24)
  have d1 := Box.new (w.alloc (.cells #[.int .i64 g.w, .int .i64 g.i, .int .i64 g.b] 23)) g 24
  rw [World.size_alloc] at d1
  have h1 := (h.alloc (.cells #[.int .i64 g.w, .int .i64 g.i, .int .i64 g.b] 23)).alloc (.cells #[.int .i64 g.w, .int .i64 g.i, .int .i64 g.b] 24)
  refine (format_yes g HM.out h1.self).mono ?_
  rintro e w2 ⟨L, rfl, hrl, _, k⟩
  rw [HN.out]
  rw [HZ.out] at hrl
  have d2 := d1.at k
  have h2 := h1.trans k
  clear k b1 d1 h1 h
  have y0 := d2.c0
  have y1 := d2.c1
  have y2 := d2.c2
  go_wp2_with fail
  refine (rformat_yes g HM.out h2.self).mono ?_
  rintro e w3 ⟨R, rfl, hrr, _, k⟩
  rw [HN.out]
  rw [HZ.out] at hrr
  have h3 := h2.trans k
  replace hrl := hrl.at k
  clear y0 y1 y2 d2 h2 k
  go_wp2_with fail
  refine (same_len _ N N _ N zs zs HLL.out HLL.out (by omega) w3.heap.size _ hrl.ints hrr.ints).mono ?_
  rintro e w4 ⟨rfl, nq, rfl⟩
  have h4 := h3.drewN nq
  replace hrl := hrl.drewN nq
  rw [show decide (zs = zs) = true by simp]
  generalize w3.drewN nq = w4 at *
  clear h3 hrr
  have HI := Lib.hid hrl.ints
  obtain ⟨al, hal⟩ : ∃ al : Option Addr, some (⟨L, 0, none⟩ : Addr) = al := ⟨_, rfl⟩
  rw [hal] at HI
  simp only [hal]
  clear hrl hal
  have hk : m % 9 < 9 := Nat.mod_lt _ (by decide)
  have hkN : m % 9 < N := by omega
  have hk2 : ((m % 9 : Nat) : Int) = (m : Int) % 9 := by omega
  have HK2 := Lib.hid hk2
  clear hk2
  have hw0 := h4.b.size
  have hdN : decide (0 < N) = true := by simp; omega
  go_upto_region 9 with (at_builtin; refine wpList_append_ints _ rfl _ _ 38 rfl w4.heap.size 42 i0 (.int .u64 0) 8 Tryd.underlying38 hi hz0 hz1 hz2 rfl _ 0 [] rfl (World.ownsRow_made _ #[] 0 (Nat.le_refl _) (Nat.zero_le _) (by simp)) al N N .u64 zs w4.heap.size rfl HLL.out (HI.out.below ((Below.refl _ _).alloc (Nat.le_refl _) _)) (by unfold maxLen; omega) (by omega) (by simp) ?_; intro v5 W hown hgrow; have hb5 : Below w4.heap.size w4 W := ((Below.refl _ w4).alloc (Nat.le_refl _) _).grown hgrow (by simp) (fun k e => by cases e; exact Nat.le_refl _); clear hgrow; simp only [Nat.zero_add, List.nil_append] at hown; obtain ⟨sg, CS, rfl, hsg, hsg2⟩ := own_pos hown (by omega); have hcell := own_cell hown hkN; have hfz := hown.frozenAt (m % 9))
  have h : At w W := ⟨h4.b.trans (hb5.mono hw0), h4.l⟩
  have hIl : Ints w4.heap.size .u64 W al zs := HI.out.below hb5
  have hwW := hb5.size
  clear hb5 h4 HI
  obtain ⟨x0, hx0⟩ : ∃ x : Int, zs[m % 9]?.getD (0 : Int) = x := ⟨_, rfl⟩
  rw [hx0] at hcell
  clear hx0
  go_upto_region 10 with (fail)
  have hown2 := own_set hown (m % 9) (IntKind.u64.wrap (x0 + (y : Int)))
  have h2 : At w (W.setCell ⟨sg, m % 9, none⟩ (.int .u64 (IntKind.u64.wrap (x0 + (y : Int))))) := h.set (a := ⟨sg, m % 9, none⟩) (Nat.le_trans hw0 hsg) _
  obtain ⟨_, _, hv, hls, hIs⟩ := Ints.of_owns hown2
  cases hv
  have hus : ∀ n ∈ zs.set (m % 9) (IntKind.u64.wrap (x0 + (y : Int))), isU64 n := fun n hn => by
    rcases List.mem_or_eq_of_mem_set hn with hh | hh
    · exact HUL.out n hh
    · rw [hh]; exact wrap_isU64 _
  replace hIl : Ints (W.setCell ⟨sg, m % 9, none⟩ (.int .u64 (IntKind.u64.wrap (x0 + (y : Int))))).heap.size .u64 (W.setCell ⟨sg, m % 9, none⟩ (.int .u64 (IntKind.u64.wrap (x0 + (y : Int))))) al zs := by
    have hb := (Below.refl w4.heap.size W).setCell (p := ⟨sg, m % 9, none⟩) hsg (.int .u64 (IntKind.u64.wrap (x0 + (y : Int))))
    exact ((hIl.below hb).mono (Nat.le_trans hwW hb.size))
  generalize zs.set (m % 9) (IntKind.u64.wrap (x0 + (y : Int))) = ys at *
  generalize (W.setCell ⟨sg, m % 9, none⟩ (.int .u64 (IntKind.u64.wrap (x0 + (y : Int))))) = W2 at *
  clear hown hown2 hcell hfz hk hkN HK2 h hz0 hz1 hz2 hi
  obtain ⟨as_, has⟩ : ∃ x : Addr, (⟨sg, 0, none⟩ : Addr) = x := ⟨_, rfl⟩
  rw [has] at hIs
  simp only [has]
  clear has
  have hlr := HLR.out
  have hll := HLL.out
  have hul := HUL.out
  have h := h2
  clear h2
  go_wp2_with fail
  have th := Three.new W2 a1 al (some as_) len1 N N cap1 N CS raw zs ys ⟨(hIr.below h.b).mono h.b.size, hIl, hIs⟩ ⟨hlr, hll, hls⟩ ⟨hmr, by omega, by omega⟩ ⟨hur, hul, hus⟩ 38
  have hA := h.alloc (.cells #[.slice a1 len1 cap1, .slice al N N, .slice (some as_) N CS] 38)
  go_upto_region 11 with (fail)
  obtain ⟨X, hX⟩ : ∃ X, W2.heap.size = X := ⟨_, rfl⟩
  rw [hX] at th
  simp only [hX]
  generalize (W2.alloc (.cells #[.slice a1 len1 cap1, .slice al N N, .slice (some as_) N CS] 38)) = W1 at *
  generalize pick3 a1 al (some as_) = sa at *
  generalize pick3 len1 N N = sl at *
  generalize pick3 cap1 N CS = sc at *
  generalize pick3 raw zs ys = sz at *
  clear hX h hIl hIs hll hls hul hus hIr hlr hmr hur
  go_wp2_with fail
  go_loopw [13] (fun j wr => ∃ k : Nat, k ≤ 3 ∧ j = .int .i64 k ∧ At w wr ∧ Three wr X sa sl sc sz) (fun j _ => 3 - (intOf j).toNat)
  case atStart => exact ⟨0, by omega, rfl, hA, th⟩
  case round =>
    clear hA th
    obtain ⟨k, hk, rfl, hr, th⟩ := hrel
    by_cases hlt : k < 3
    · have TH := Lib.hid th
      have ck := th.c k hlt
      clear th
      go_wp2_with fail
      refine (of_any (w0 := wr) _ _ _ (sz k) (TH.out.l k hlt) (TH.out.m k hlt) (TH.out.u k hlt) (TH.out.i k hlt) hr.self).mono ?_
      rintro e w5 ⟨rfl, k5⟩
      replace TH : Hid (Three w5 X sa sl sc sz) := Lib.hid (TH.out.at k5)
      have h5 := hr.trans k5
      clear k5 hr ck
      have ck := TH.out.c k hlt
      obtain ⟨⟨p, q, r⟩, bb, hof⟩ : ∃ (g : G) (b : Bool), ofV (sz k) = (g, b) := ⟨_, _, rfl⟩
      have HOF := Lib.hid (show ofR (sz k) = .tuple #[.agg #[.int .i64 p, .int .i64 q, .int .i64 r], .bool bb] by unfold ofR; rw [hof]; rfl)
      clear hof
      rw [HOF.out]
      go_upto_region 15 with (fail)
      have bx := Box.new w5 ⟨p, q, r⟩ 23
      replace TH : Hid (Three _ X sa sl sc sz) := Lib.hid (TH.out.alloc h5.least (.cells #[.int .i64 p, .int .i64 q, .int .i64 r] 23))
      have h6 := h5.alloc (.cells #[.int .i64 p, .int .i64 q, .int .i64 r] 23)
      obtain ⟨Y, hY⟩ : ∃ Y, w5.heap.size = Y := ⟨_, rfl⟩
      rw [hY] at bx
      simp only [hY]
      generalize (w5.alloc (.cells #[.int .i64 p, .int .i64 q, .int .i64 r] 23)) = w6 at *
      clear ck hY h5
      have ck := TH.out.c k hlt
      go_wp2_with fail
      refine (rof_any (w0 := w6) _ _ _ (sz k) (TH.out.l k hlt) (TH.out.m k hlt) (TH.out.u k hlt) (TH.out.i k hlt) h6.self).mono ?_
      rintro e w7 ⟨rfl, k7⟩
      replace TH : Hid (Three w7 X sa sl sc sz) := Lib.hid (TH.out.at k7)
      replace bx := bx.at k7
      have h7 := h6.trans k7
      clear k7 h6 ck
      rw [HOF.out]
      have y0 := bx.c0
      have y1 := bx.c1
      have y2 := bx.c2
      have hY7 := (cell_lt y0).1
      clear bx
      go_wp2_with fail
      go_roundw
      case rel => exact ⟨k + 1, by omega, by go_num, h7.alloc _, TH.out.alloc h7.least _⟩
      case measure => simp [intOf]; omega
    · clear th
      go_wp2_with fail
      refine (works_any hr).mono ?_
      rintro e w99 ⟨rfl, h99⟩
      go_wp2_with fail
      go_ret
      exact ⟨rfl, h99.b⟩


end Go.Proofs.YteaokdkfpafmaaaDoor
