/-
  THE WALK OF the law LayoutFormats.
-/
import Derived.Test.YteaokdkfpafmaaaDoorLayQ
namespace Go.Proofs.YteaokdkfpafmaaaDoor
open Go.RowKit

set_option maxHeartbeats 1000000 in
theorem walk_formats_long (g : G) (a1 : Option Addr) (len1 cap1 : Nat) (at_ by_ : Int) (hg : 1000 < len1) (hmr : len1 * 8 ≤ 140737488351232) (w : World) (hl : Least w) :
    Calls Tryd.prog 5 #[gV g, .slice a1 len1 cap1, .int .u16 at_, .int .u16 by_] w fun e w' => e = .returned (.bool true) ∧ Below w.heap.size w w' := by
  have hd : decide (1000 < (len1 : Int)) = true := by simp; omega
  have h := At.refl hl
  unfold gV
  go_enter Tryd.func5, Tryd.ntmps5
  go_wp2_with fail
  refine (works_any (h.alloc _)).mono ?_
  rintro e w99 ⟨rfl, h99⟩
  go_wp2_with fail
  go_ret
  exact ⟨rfl, h99.b⟩

set_option maxRecDepth 100000 in
set_option maxHeartbeats 8000000 in
theorem walk_formats_no (g : G) (hm : ¬ mayP g) (a1 : Option Addr) (len1 cap1 : Nat) (raw : List Int) (hlr : raw.length = len1) (hmr : len1 * 8 ≤ 140737488351232) (hur : ∀ n ∈ raw, isU64 n) (at_ by_ : Int) (hg : ¬ 1000 < len1) (w : World) (hl : Least w) (hIr : Ints w.heap.size .u64 w a1 raw) :
    Calls Tryd.prog 5 #[gV g, .slice a1 len1 cap1, .int .u16 at_, .int .u16 by_] w fun e w' => e = .returned (.bool true) ∧ Below w.heap.size w w' := by
  have hd : decide (1000 < (len1 : Int)) = false := by simp; omega
  have h := At.refl hl
  have HLR := Lib.hid hlr
  clear hlr
  obtain ⟨i0, hi, hz0, hz1, hz2⟩ := info_parts info_u64
  unfold gV
  go_enter Tryd.func5, Tryd.ntmps5
  go_wp2_with fail
  have b1 := (Box.new w g 23).alloc (.cells #[.int .i64 g.w, .int .i64 g.i, .int .i64 g.b] 24)
  have d1 := Box.new (w.alloc (.cells #[.int .i64 g.w, .int .i64 g.i, .int .i64 g.b] 23)) g 24
  rw [World.size_alloc] at d1
  have h1 := (h.alloc (.cells #[.int .i64 g.w, .int .i64 g.i, .int .i64 g.b] 23)).alloc (.cells #[.int .i64 g.w, .int .i64 g.i, .int .i64 g.b] 24)
  refine (format_no g hm h1.self).mono ?_
  rintro e w2 ⟨rfl, k⟩
  have d2 := d1.at k
  have h2 := h1.trans k
  clear k b1 d1 h1 h
  have y0 := d2.c0
  have y1 := d2.c1
  have y2 := d2.c2
  go_wp2_with fail
  refine (rformat_no g hm h2).mono ?_
  rintro e w3 ⟨rfl, h3⟩
  clear y0 y1 y2 d2 h2 hm
  go_wp2_with fail
  refine (same_len none 0 0 none 0 [] [] rfl rfl (by decide) 0 _ (.inl rfl) (.inl rfl)).mono ?_
  rintro e w4 ⟨rfl, nq, rfl⟩
  have h4 := h3.drewN nq
  rw [show decide (([] : List Int) = []) = true from rfl]
  generalize w3.drewN nq = w4 at *
  clear h3
  go_upto_region 10 with (fail)
  have h : At w (w4.alloc (.cells #[] 42)) := h4.alloc _
  obtain ⟨as_, has⟩ : ∃ x : Addr, (⟨w4.heap.size, 0, none⟩ : Addr) = x := ⟨_, rfl⟩
  simp only [has]
  generalize w4.alloc (.cells #[] 42) = W at *
  clear h4 has hz0 hz1 hz2 hi
  have hlr := HLR.out
  go_wp2_with fail
  have th := Three.new W a1 none (some as_) len1 0 0 cap1 0 0 raw [] [] ⟨(hIr.below h.b).mono h.b.size, .inl rfl, .inl rfl⟩ ⟨hlr, rfl, rfl⟩ ⟨hmr, by decide, by decide⟩ ⟨hur, by simp, by simp⟩ 38
  have hA := h.alloc (.cells #[.slice a1 len1 cap1, .slice none 0 0, .slice (some as_) 0 0] 38)
  go_upto_region 11 with (fail)
  obtain ⟨X, hX⟩ : ∃ X, W.heap.size = X := ⟨_, rfl⟩
  rw [hX] at th
  simp only [hX]
  generalize (W.alloc (.cells #[.slice a1 len1 cap1, .slice none 0 0, .slice (some as_) 0 0] 38)) = W1 at *
  generalize pick3 a1 none (some as_) = sa at *
  generalize pick3 len1 0 0 = sl at *
  generalize pick3 cap1 0 0 = sc at *
  generalize pick3 raw [] [] = sz at *
  clear hX h hIr hlr hmr hur
  go_wp2_with fail
  go_loopw [13] (fun j wr => ∃ k : Nat, k ≤ 3 ∧ j = .int .i64 k ∧ At w wr ∧ Three wr X sa sl sc sz) (fun j _ => 3 - (intOf j).toNat)
  case atStart => exact ⟨0, by omega, rfl, hA, th⟩
  case round =>
    clear hA th
    obtain ⟨k, hk, rfl, hr, th⟩ := hrel
    by_cases hlt : k < 3
    · have TH := Lib.hid th
      have ck := th.c k hlt
      clear th
      go_wp2_with fail
      refine (of_any (w0 := wr) _ _ _ (sz k) (TH.out.l k hlt) (TH.out.m k hlt) (TH.out.u k hlt) (TH.out.i k hlt) hr.self).mono ?_
      rintro e w5 ⟨rfl, k5⟩
      replace TH : Hid (Three w5 X sa sl sc sz) := Lib.hid (TH.out.at k5)
      have h5 := hr.trans k5
      clear k5 hr ck
      have ck := TH.out.c k hlt
      obtain ⟨⟨p, q, r⟩, bb, hof⟩ : ∃ (g : G) (b : Bool), ofV (sz k) = (g, b) := ⟨_, _, rfl⟩
      have HOF := Lib.hid (show ofR (sz k) = .tuple #[.agg #[.int .i64 p, .int .i64 q, .int .i64 r], .bool bb] by unfold ofR; rw [hof]; rfl)
      clear hof
      rw [HOF.out]
      go_upto_region 15 with (fail)
      have bx := Box.new w5 ⟨p, q, r⟩ 23
      replace TH : Hid (Three _ X sa sl sc sz) := Lib.hid (TH.out.alloc h5.least (.cells #[.int .i64 p, .int .i64 q, .int .i64 r] 23))
      have h6 := h5.alloc (.cells #[.int .i64 p, .int .i64 q, .int .i64 r] 23)
      obtain ⟨Y, hY⟩ : ∃ Y, w5.heap.size = Y := ⟨_, rfl⟩
      rw [hY] at bx
      simp only [hY]
      generalize (w5.alloc (.cells #[.int .i64 p, .int .i64 q, .int .i64 r] 23)) = w6 at *
      clear ck hY h5
      have ck := TH.out.c k hlt
      go_wp2_with fail
      refine (rof_any (w0 := w6) _ _ _ (sz k) (TH.out.l k hlt) (TH.out.m k hlt) (TH.out.u k hlt) (TH.out.i k hlt) h6.self).mono ?_
      rintro e w7 ⟨rfl, k7⟩
      replace TH : Hid (Three w7 X sa sl sc sz) := Lib.hid (TH.out.at k7)
      replace bx := bx.at k7
      have h7 := h6.trans k7
      clear k7 h6 ck
      rw [HOF.out]
      have y0 := bx.c0
      have y1 := bx.c1
      have y2 := bx.c2
      have hY7 := (cell_lt y0).1
      clear bx
      go_wp2_with fail
      go_roundw
      case rel => exact ⟨k + 1, by omega, by go_num, h7.alloc _, TH.out.alloc h7.least _⟩
      case measure => simp [intOf]; omega
    · clear th
      go_wp2_with fail
      refine (works_any hr).mono ?_
      rintro e w99 ⟨rfl, h99⟩
      go_wp2_with fail
      go_ret
      exact ⟨rfl, h99.b⟩

end Go.Proofs.YteaokdkfpafmaaaDoor
