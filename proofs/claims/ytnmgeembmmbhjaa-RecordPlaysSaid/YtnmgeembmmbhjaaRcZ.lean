/-
  THE WALK OF RecordPlays.
-/
import Derived.Deep.DeepCutAuto
import Derived.Test.YtnmgeembmmbhjaaRcW
import Derived.Test.YtnmgeembmmbhjaaRcE
namespace Go.Proofs.Ytnmgeembmmbhjaa
open Go.RowKit Go.Shelf
set_option linter.unusedVariables false

/-- A row of one's own, made behind w. -/
def SomeR (w wx : World) (a : Option Addr) (n : Nat) : Prop := Nw w wx ∧ ∃ ys : List Int, ys.length = n ∧ (∀ x ∈ ys, u64 x) ∧ Ints wx.heap.size .u64 wx a ys

def fives {α : Type} (x0 x1 x2 x3 x4 : α) : Nat → α
  | 0 => x0
  | 1 => x1
  | 2 => x2
  | 3 => x3
  | _ => x4
/-- What is known of one of the five. -/
structure FiveP (W : World) (a : Option Addr) (n c : Nat) (zs : List Int) : Prop where
  len : zs.length = n
  cap : n ≤ c
  small : n ≤ 400
  u : ∀ x ∈ zs, u64 x
  ints : Ints W.heap.size .u64 W a zs

set_option maxRecDepth 100000 in
set_option maxHeartbeats 8000000 in
theorem walk_plays (g : G) (a0 : Option Addr) (len0 cap0 : Nat) (l : List Wr) (hl : l.length = len0) (hlm : len0 ≤ 9223372036854775807) (hok : okW l) (hwf : ∀ x ∈ l, (Lit.int .i64 x.1).wf = true)
    (a1 : Option Addr) (len1 cap1 : Nat) (zs : List Int) (hzl : zs.length = len1) (hzc : len1 ≤ cap1) (hr1 : len1 * 8 ≤ 140737488351232) (hzu : ∀ x ∈ zs, u64 x) (at_ : Nat) (hat : at_ < 65536) (by_ : Int) (hby : u64 by_)
    (w : World) (hI : Pairs .i64 .u64 w.heap.size w a0 l) (hIz : Ints w.heap.size .u64 w a1 zs) :
    Calls Try.prog 3 #[gV g, .slice a0 len0 cap0, .slice a1 len1 cap1, .int .u16 (at_ : Int), .int .u64 by_] w fun e w' => e = .returned (.bool true) ∧ Below w.heap.size w w' := by
  obtain ⟨i0, hi, hz0, hz1, hz2⟩ := info_parts8 info_u64
  unfold gV
  by_cases hbig : 200 < len0 ∨ 400 < len1
  · clear hok hI hl hIz hzl hzu hwf
    rcases hbig with hbig | hbig
    · go_enter Try.func3, Try.ntmps3
      go_wp2_with fail
      refine (works_ok _).mono ?_
      rintro e w1 ⟨rfl, hN⟩
      go_wp2_with fail
      go_ret
      exact ⟨rfl, ((Nw.refl.alloc _).trans hN).b⟩
    · by_cases hd1 : 200 < len0
      all_goals
        go_enter Try.func3, Try.ntmps3
        go_wp2_with fail
        refine (works_ok _).mono ?_
        rintro e w1 ⟨rfl, hN⟩
        go_wp2_with fail
        go_ret
        exact ⟨rfl, ((Nw.refl.alloc _).trans hN).b⟩
  have h200 : len0 ≤ 200 := by omega
  have h400 : len1 ≤ 400 := by omega
  have HL := Lib.hid hl
  have HZL := Lib.hid hzl
  have HU := Lib.hid hok
  have HZU := Lib.hid hzu
  have HMY := Lib.hid (fun (W : World) (h : Nw w W) => rcmay_any g a0 cap0 _ l hwf W (Nat.le_refl _) (hI.nw h) (by omega))
  have HRM := Lib.hid (fun (W : World) (h : Nw w W) => rrmay_any g a0 cap0 _ l W (Nat.le_refl _) (hI.nw h) (by omega))
  have HW := Lib.hid (fun (W : World) (h : Nw w W) => words_any a0 cap0 _ l hok W (Nat.le_refl _) (hI.nw h) (by omega))
  have HRW := Lib.hid (fun (W : World) (h : Nw w W) => rwordsR_any a0 cap0 _ l hok W (Nat.le_refl _) (hI.nw h) (by omega))
  rw [hl] at HMY HRM HW HRW
  have HIz := Lib.hid (fun (W : World) (h : Nw w W) => Ints.nw (n := 0) h hIz)
  have B0 := Box.new w g 23
  obtain ⟨W0, hW0⟩ : ∃ W0, w.alloc (.cells #[.int .i64 g.w, .int .i64 g.i, .int .i64 g.b] 23) = W0 := ⟨_, rfl⟩
  have hn0 : Nw w W0 := by rw [← hW0]; exact Nw.refl.alloc _
  have hsz0 : W0.heap.size = w.heap.size + 1 := by rw [← hW0]; simp
  have R0 := Box.new W0 g 29
  have B1 := B0
  rw [hW0] at B1
  have B2 := B1.alloc (.cells #[.int .i64 g.w, .int .i64 g.i, .int .i64 g.b] 29)
  have b0 := B1.c0
  have b1 := B1.c1
  have b2 := B1.c2
  clear hl hzl hok hzu hwf hI hIz hbig
  go_enter Try.func3, Try.ntmps3
  go_upto_region 4 with fail
  rw [hsz0] at R0
  have hn1 : Nw w (W0.alloc (.cells #[.int .i64 g.w, .int .i64 g.i, .int .i64 g.b] 29)) := hn0.alloc _
  generalize W0.alloc (.cells #[.int .i64 g.w, .int .i64 g.i, .int .i64 g.b] 29) = W1 at R0 B2 hn1 ⊢
  clear B0 B1 b0 b1 b2 hn0 hW0 hsz0
  obtain ⟨xs, hxs⟩ : ∃ xs, wordsL l = xs := ⟨_, rfl⟩
  obtain ⟨nx, hnx⟩ : ∃ nx, xs.length = nx := ⟨_, rfl⟩
  have hnb : nx ≤ 194 := by
    rw [← hnx, ← hxs]; unfold wordsL; split
    · simp
    · rename_i h; rw [recL_len]; omega
  obtain ⟨q, hq⟩ : ∃ q, wordsE l = q := ⟨_, rfl⟩
  have HXU := Lib.hid (show ∀ x ∈ xs, u64 x from by rw [← hxs]; exact words_u64 HU.out)
  have HXS := Lib.hid hxs
  have HNX := Lib.hid hnx
  have HQ := Lib.hid hq
  clear hxs hnx hq
  have HW1 := Lib.hid (HW.out W1 hn1)
  go_wp2_with fail
  refine HW1.out.mono ?_
  intro e W2 h2
  obtain ⟨a2, c2, rfl, hc2, hI2, hN2⟩ := h2.own (n := nx) (by rw [HXS.out, HNX.out])
  rw [HQ.out]
  rw [HXS.out] at hI2
  have hn2 := hn1.trans hN2
  have B3 := B2.at ⟨hN2.b⟩
  have R3 := R0.at ⟨hN2.b⟩
  have HRW2 := Lib.hid (HRW.out W2 hn2)
  clear h2 hN2 B2 R0 HW1 HW HRW hn1
  go_wp2_with fail
  refine HRW2.out.mono ?_
  intro e W3 h3
  obtain ⟨a3, c3, rfl, hc3, hI3, hN3⟩ := h3.own (n := nx) (by rw [HXS.out, HNX.out])
  rw [HQ.out]
  rw [HXS.out] at hI3
  have hn3 := hn2.trans hN3
  have B4 := B3.at ⟨hN3.b⟩
  have R4 := R3.at ⟨hN3.b⟩
  have HI2 := Lib.hid (Ints.nw (n := 0) hN3 hI2)
  have HI3 := Lib.hid hI3
  clear h3 hN3 B3 R3 HRW2 hn2 hI2 hI3
  obtain ⟨mm, hmm⟩ : ∃ mm, mayW g l = mm := ⟨_, rfl⟩
  rw [hmm] at HMY HRM
  clear hmm
  unfold gV at HMY HRM
  have HSM := Lib.hid (fun (X : World) (h : Nw W3 X) => same_len a2 nx c2 a3 c3 xs xs HNX.out HNX.out (by omega) X.heap.size X (Ints.nw (n := 0) h HI2.out) (Ints.nw (n := 0) h HI3.out))
  rw [show decide (xs = xs) = true from decide_eq_true rfl] at HSM
  have b0 := B4.c0
  have b1 := B4.c1
  have b2 := B4.c2
  have r0 := R4.c0
  have r1 := R4.c1
  have r2 := R4.c2
  go_wp2_with fail
  go_region_held3 (fun w' => w'.cell? ⟨w.heap.size, 0, none⟩ = some (.int .i64 g.w) ∧ w'.cell? ⟨w.heap.size, 1, none⟩ = some (.int .i64 g.i) ∧ w'.cell? ⟨w.heap.size, 2, none⟩ = some (.int .i64 g.b) ∧ w'.cell? ⟨w.heap.size + 1, 0, none⟩ = some (.int .i64 g.w) ∧ w'.cell? ⟨w.heap.size + 1, 1, none⟩ = some (.int .i64 g.i) ∧ w'.cell? ⟨w.heap.size + 1, 2, none⟩ = some (.int .i64 g.b) ∧ Nw W3 w')
    (first | (exact ⟨b0, b1, b2, r0, r1, r2, Nw.refl.drew⟩) | (exact ⟨b0, b1, b2, r0, r1, r2, Nw.refl.drew.drewN _⟩) | (exact ⟨b0, b1, b2, r0, r1, r2, Nw.refl.drewN _⟩) | (go_split_ands; exact ⟨(Box.at ⟨by assumption, by assumption, by assumption⟩ ⟨kx.b⟩).c0, (Box.at ⟨by assumption, by assumption, by assumption⟩ ⟨kx.b⟩).c1, (Box.at ⟨by assumption, by assumption, by assumption⟩ ⟨kx.b⟩).c2, (Box.at ⟨by assumption, by assumption, by assumption⟩ ⟨kx.b⟩).c0, (Box.at ⟨by assumption, by assumption, by assumption⟩ ⟨kx.b⟩).c1, (Box.at ⟨by assumption, by assumption, by assumption⟩ ⟨kx.b⟩).c2, Nw.trans (by assumption) kx⟩))
    ((first
      | (go_at_call 11; refine (HSM.out _ (by go_split_ands; assumption)).mono ?_; rintro e w5 ⟨rfl, m5, rfl⟩; have kx := nw_drewN W3.drew m5)
      | (go_at_call 12; refine (HMY.out _ (by go_split_ands; exact hn3.trans (by assumption))).mono ?_; rintro e w6 ⟨rfl, kx⟩)
      | (go_at_call 13; refine (HRM.out _ (by go_split_ands; exact hn3.trans (by assumption))).mono ?_; rintro e w7 ⟨rfl, kx⟩)))
  obtain ⟨_, _, _, _, _, _, hn7⟩ : w7.cell? ⟨w.heap.size, 0, none⟩ = some (.int .i64 g.w) ∧ w7.cell? ⟨w.heap.size, 1, none⟩ = some (.int .i64 g.i) ∧ w7.cell? ⟨w.heap.size, 2, none⟩ = some (.int .i64 g.b) ∧ w7.cell? ⟨w.heap.size + 1, 0, none⟩ = some (.int .i64 g.w) ∧ w7.cell? ⟨w.heap.size + 1, 1, none⟩ = some (.int .i64 g.i) ∧ w7.cell? ⟨w.heap.size + 1, 2, none⟩ = some (.int .i64 g.b) ∧ Nw W3 w7 := by assumption
  have HB7 := Lib.hid (B4.at ⟨hn7.b⟩)
  have HR7 := Lib.hid (R4.at ⟨hn7.b⟩)
  have HN7 := Lib.hid (hn3.trans hn7)
  have HI7 := Lib.hid (Ints.nw (n := 0) hn7 HI3.out)
  clear kx b0 b1 b2 r0 r1 r2 B4 R4 hn7 hn3 HMY HRM HSM HI2 HI3 hc2 HXS
  go_upto_region 9 with (first
    | (at_builtin; refine wpList_append_ints _ rfl (.tmp 62) (.tmp 63) 25 rfl w7.heap.size 27 i0 (.int .u64 0) 8 Try.underlying25 hi hz0 hz1 hz2 rfl _ 0 [] rfl (World.ownsRow_made _ #[] 0 (Nat.le_refl _) (Nat.zero_le _) (by simp)) _ nx c3 .u64 xs _ rfl HNX.out (Ints.below (Nw.refl.alloc _).b HI7.out) (by unfold maxLen; omega) (by omega) (by simp) ?_; intro v8 w8 hown8 hgrow8; have hb8 : Below w7.heap.size w7 w8 := ((Below.refl _ w7).alloc (Nat.le_refl _) _).grown hgrow8 (by simp) (fun k e => by cases e; exact Nat.le_refl _); clear hgrow8; simp only [Nat.zero_add, List.nil_append] at hown8; obtain ⟨a8, c8, rfl⟩ := own_slice hown8)
    | fail)
  have HXX := Lib.hid (Ints.of_owns hown8)
  have HCX := Lib.hid (own_cap hown8)
  go_upto_if 67 with fail
  go_cut [16] (fun v wx => v = .slice a8 nx c8 ∧ SomeR w7 wx a8 nx)
  case first =>
    by_cases h0 : nx = 0
    · subst h0
      go_wp2_with fail
      go_meet
      obtain ⟨a', c', he, hl, hi⟩ := HXX.out
      simp only [Value.slice.injEq, true_and] at he
      obtain ⟨rfl, rfl⟩ := he
      exact ⟨rfl, ⟨hb8⟩, xs, hl, HXU.out, hi⟩
    · have hpos : 0 < nx := by omega
      obtain ⟨gg, c', he, hg⟩ := own_pos hown8 hpos
      simp only [Value.slice.injEq, true_and] at he
      obtain ⟨rfl, rfl⟩ := he
      obtain ⟨K, hK, hK1⟩ : ∃ K : Nat, (at_ : Int) % (nx : Int) = (K : Int) ∧ K < nx := ⟨at_ % nx, by rw [Int.natCast_emod], Nat.mod_lt _ hpos⟩
      obtain ⟨x, hx⟩ : ∃ x, xs[K]?.getD 0 = x := ⟨_, rfl⟩
      have cK := own_cell hown8 (j := K) hK1
      rw [hx] at cK
      have fK := hown8.frozenAt K
      have hK2 : (K : Int) < (nx : Int) := by omega
      clear hx
      go_wp2_with fail
      go_meet
      have hown9 := own_set hown8 K (IntKind.u64.wrap (x + by_))
      obtain ⟨a', c', he, hl, hi⟩ := Ints.of_owns hown9
      simp only [Value.slice.injEq, true_and] at he
      obtain ⟨rfl, rfl⟩ := he
      exact ⟨rfl, ⟨hb8.setCell (p := ⟨gg, K, none⟩) hg.1 _⟩, _, hl, u64_set HXU.out (wrap_isU _), hi⟩
  case rest =>
  obtain ⟨rfl, hN9, ys, hyl, hyu, hyI⟩ := hcut
  have HYL := Lib.hid hyl
  have HYU := Lib.hid hyu
  have HYI := Lib.hid hyI
  have HI9 := Lib.hid (Ints.nw (n := 0) hN9 HI7.out)
  have HB9 := Lib.hid (HB7.out.at ⟨hN9.b⟩)
  have HR9 := Lib.hid (HR7.out.at ⟨hN9.b⟩)
  have HN9 := Lib.hid (HN7.out.trans hN9)
  clear hyl hyu hyI hb8 hown8 hN9
  go_upto_region 12 with (first
    | (at_builtin; refine wpList_append_ints _ rfl (.tmp 79) (.tmp 80) 25 rfl wc.heap.size 27 i0 (.int .u64 0) 8 Try.underlying25 hi hz0 hz1 hz2 rfl _ 0 [] rfl (World.ownsRow_made _ #[] 0 (Nat.le_refl _) (Nat.zero_le _) (by simp)) _ nx c3 .u64 xs _ rfl HNX.out (Ints.below (Nw.refl.alloc _).b HI9.out) (by unfold maxLen; omega) (by omega) (by simp) ?_; intro v10 w10 hown10 hgrow10; have hb10 : Below wc.heap.size wc w10 := ((Below.refl _ wc).alloc (Nat.le_refl _) _).grown hgrow10 (by simp) (fun k e => by cases e; exact Nat.le_refl _); clear hgrow10; simp only [Nat.zero_add, List.nil_append] at hown10; have hs10 := hb10.size; have hbA : Below wc.heap.size wc (w10.alloc (.cells #[.int .u64 7, .int .u64 7] 27)) := hb10.alloc hs10 _; have hownA := hown10.alloc (.cells #[.int .u64 7, .int .u64 7] 27); have hsA := hbA.size)
    | (at_builtin; refine wpList_append_ints _ rfl (.tmp 81) (.tmp 82) 25 rfl wc.heap.size 27 i0 (.int .u64 0) 8 Try.underlying25 hi hz0 hz1 hz2 rfl _ _ _ rfl hownA _ 2 2 .u64 [7, 7] _ rfl rfl (Ints.two .u64 w10 7 7 _) (by unfold maxLen; omega) (by omega) hsA ?_; intro v11 w11 hown11 hgrow11; have hb11 : Below wc.heap.size wc w11 := Below.grownRow hbA hgrow11 hsA hownA (Nat.le_refl _); clear hgrow11; rw [← List.map_append] at hown11; obtain ⟨a11, c11, rfl⟩ := own_slice hown11)
    | fail)
  have HX11 := Lib.hid (Ints.of_owns hown11)
  have HC11 := Lib.hid (own_cap hown11)
  have hN11 : Nw wc w11 := ⟨hb11⟩
  have HI11 := Lib.hid (Ints.nw (n := 0) hN11 HI9.out)
  have HY11 := Lib.hid (Ints.nw (n := 0) hN11 HYI.out)
  have HB11 := Lib.hid (HB9.out.at ⟨hN11.b⟩)
  have HR11 := Lib.hid (HR9.out.at ⟨hN11.b⟩)
  have HN11 := Lib.hid (HN9.out.trans hN11)
  clear hown11 hb11 hN11 hown10 hownA hbA hs10 hsA hb10
  go_cut [18] (fun v wx => v = .slice (some ⟨w11.heap.size, 0, none⟩) 5 5 ∧ wx = w11.alloc (.cells #[.slice a1 len1 cap1, .slice a3 nx c3, .slice a8 nx c8, .slice a11 (nx + 2) c11, .slice a3 (nx - 1) c3] 25))
  case first =>
    by_cases h0 : nx = 0
    · subst h0
      go_wp2_with fail
      go_meet
      exact ⟨rfl, rfl⟩
    · have hp : (0 : Int) ≤ (nx : Int) - 1 := by omega
      go_wp2_with fail
      go_meet
      exact ⟨rfl, rfl⟩
  case rest =>
  obtain ⟨rfl, hw12⟩ := hcut
  generalize hgA : w11.heap.size = gA at hw12 ⊢
  have HGA := Lib.hid hgA
  have hN12 : Nw w11 wc := by rw [hw12]; exact Nw.refl.alloc _
  have HFC := Lib.hid (show ∀ k, k < 5 → wc.cell? ⟨gA, k, none⟩ = some (.slice (fives a1 a3 a8 a11 a3 k) (fives len1 nx nx (nx + 2) (nx - 1) k) (fives cap1 c3 c8 c11 c3 k)) from by
    intro k hk
    rw [hw12, ← hgA]
    rcases k with _ | _ | _ | _ | _ | k
    all_goals first | omega | simp [fives])
  have HFI := Lib.hid (show ∀ k, k < 5 → FiveP wc (fives a1 a3 a8 a11 a3 k) (fives len1 nx nx (nx + 2) (nx - 1) k) (fives cap1 c3 c8 c11 c3 k) (fives zs xs ys (xs ++ [7, 7]) (xs.take (nx - 1)) k) from by
    intro k hk
    rcases k with _ | _ | _ | _ | _ | k
    · show FiveP wc a1 len1 cap1 zs
      exact ⟨HZL.out, hzc, by omega, HZU.out, HIz.out wc (HN11.out.trans hN12)⟩
    · show FiveP wc a3 nx c3 xs
      exact ⟨HNX.out, hc3, by omega, HXU.out, Ints.nw (n := 0) hN12 HI11.out⟩
    · show FiveP wc a8 nx c8 ys
      exact ⟨HYL.out, HCX.out, by omega, HYU.out, Ints.nw (n := 0) hN12 HY11.out⟩
    · show FiveP wc a11 (nx + 2) c11 (xs ++ [7, 7])
      refine ⟨by simp [HNX.out], HC11.out, by omega, ?_, Ints.nw (n := 0) hN12 ?_⟩
      · intro x hx
        rcases List.mem_append.1 hx with h | h
        · exact HXU.out x h
        · simp at h; rw [h]; exact ⟨by decide, by decide⟩
      · obtain ⟨a', c', he, _, hi⟩ := HX11.out
        simp only [Value.slice.injEq, true_and] at he
        obtain ⟨rfl, rfl⟩ := he
        exact hi
    · show FiveP wc a3 (nx - 1) c3 (xs.take (nx - 1))
      exact ⟨by simp [HNX.out], by omega, by omega, fun x hx => HXU.out x (List.mem_of_mem_take hx), Ints.take _ (Ints.nw (n := 0) hN12 HI11.out)⟩
    · omega)
  have hB := HB11.out.at ⟨hN12.b⟩
  have hR := HR11.out.at ⟨hN12.b⟩
  have hn := HN11.out.trans hN12
  have HGL := Lib.hid (show gA < wc.heap.size from by rw [hw12, ← hgA]; simp)
  clear hw12 hgA hN12 HN11 HB11 HR11 HX11 HI11 HY11 HYI HXX HI9 HN9 HB9 HR9 HYL HYU HCX HC11 HIz hzc hc3 hnb
  generalize fives a1 a3 a8 a11 a3 = ad at HFC HFI
  generalize fives len1 nx nx (nx + 2) (nx - 1) = ln at HFC HFI
  generalize fives cap1 c3 c8 c11 c3 = cp at HFC HFI
  generalize fives zs xs ys (xs ++ [7, 7]) (xs.take (nx - 1)) = zz at HFI
  go_wp2_with fail
  go_loopw [19] (fun i wr => ∃ k : Nat, k ≤ 5 ∧ i = .int .i64 k ∧ Nw wc wr) (fun i _ => 5 - (intOf i).toNat)
  case atStart => exact ⟨0, by omega, rfl, Nw.refl⟩
  case round =>
    obtain ⟨k, hk, rfl, hr⟩ := hrel
    by_cases hlt : k < 5
    · obtain ⟨f1, f2, f3, f4, f5⟩ := HFI.out k hlt
      have cK := HFC.out k hlt
      generalize ad k = ak at cK f5
      generalize ln k = nk at cK f1 f2 f3
      generalize cp k = ck at cK f2
      generalize zz k = zk at f1 f4 f5
      have HHR := Lib.hid hr
      have HGK := Lib.hid cK
      obtain ⟨rl, hrl⟩ : ∃ rl, readL g zk = rl := ⟨_, rfl⟩
      obtain ⟨re, hre⟩ : ∃ re, readE g zk = re := ⟨_, rfl⟩
      obtain ⟨rn, hrn⟩ : ∃ rn, rl.length = rn := ⟨_, rfl⟩
      obtain ⟨M, hM⟩ : ∃ M, markV zk = M := ⟨_, rfl⟩
      have HRN := Lib.hid hrn
      have hrb : rn ≤ 96 := by
        rw [← hrn, ← hrl]; unfold readL; split
        · rename_i h
          rw [pairsN_len]
          unfold readOk at h
          simp only [Bool.and_eq_true, decide_eq_true_eq] at h
          have := h.1.1.1.2.1
          unfold readN
          omega
        · simp
      have HR1 := Lib.hid (fun (X : World) (h : Nw wr X) => show Calls Try.prog 14 #[gV g, .slice ak nk ck] X (fun e w' => ∃ a' c', e = .returned (.tuple #[.slice a' rn c', .int .i64 re]) ∧ Pairs .i64 .u64 w'.heap.size w' a' rl ∧ Nw X w') from by
        have h1 := read_any g ak ck X.heap.size zk (by rw [f1]; exact f2) f4 (by rw [f1]; omega) X (Nat.le_refl _) (Ints.nw (n := 0) (HHR.out.trans h) f5)
        rw [f1] at h1
        refine h1.mono ?_
        intro e w' h2
        obtain ⟨a', c', he, _, hP, hN⟩ := h2.own (n := rn) (by rw [hrl, hrn])
        rw [hrl] at hP; rw [hre] at he
        exact ⟨a', c', he, hP, hN⟩)
      have HR2 := Lib.hid (fun (X : World) (h : Nw wr X) => show Calls Try.prog 15 #[gV g, .slice ak nk ck] X (fun e w' => ∃ a' c', e = .returned (.tuple #[.slice a' rn c', .int .i64 re]) ∧ Pairs .i64 .u64 w'.heap.size w' a' rl ∧ Nw X w') from by
        have h1 := rread_any g ak ck X.heap.size zk (by rw [f1]; exact f2) f4 (by rw [f1]; omega) X (Nat.le_refl _) (Ints.nw (n := 0) (HHR.out.trans h) f5)
        rw [f1] at h1
        refine h1.mono ?_
        intro e w' h2
        obtain ⟨a', c', he, _, hP, hN⟩ := h2.own (n := rn) (by rw [hrl, hrn])
        rw [hrl] at hP; rw [hre] at he
        exact ⟨a', c', he, hP, hN⟩)
      have HM1 := Lib.hid (fun (X : World) (h : Nw wr X) => show Calls Try.prog 17 #[.slice ak nk ck] X (Quietly (.int .u64 M) X) from by
        have h1 := mark_any ak ck X.heap.size zk (by rw [f1]; exact f2) f4 (by rw [f1]; omega) X (Ints.nw (n := 0) (HHR.out.trans h) f5)
        rw [f1, hM] at h1
        exact h1)
      have HM2 := Lib.hid (fun (X : World) (h : Nw wr X) => show Calls Try.prog 18 #[.slice ak nk ck] X (Quietly (.int .u64 M) X) from by
        have h1 := rmark_any ak ck X.heap.size zk (by rw [f1]; exact f2) f4 (by rw [f1]; omega) X (Ints.nw (n := 0) (HHR.out.trans h) f5)
        rw [f1, hM] at h1
        exact h1)
      unfold gV at HR1 HR2
      have hk5 : (k : Int) < 5 := by omega
      have cKr := (hr.b.cell (p := ⟨gA, k, none⟩) HGL.out).trans cK
      have BR := hB.at ⟨hr.b⟩
      have RR := hR.at ⟨hr.b⟩
      have b0 := BR.c0
      have b1 := BR.c1
      have b2 := BR.c2
      have HBR := Lib.hid BR
      have HRR := Lib.hid RR
      have HGR := Lib.hid (fun (X : World) (h : Nw wr X) => (((hr.trans h).b).cell (p := ⟨gA, k, none⟩) HGL.out).trans cK)
      clear hrl hre hrn hM f1 f2 f3 f4 f5 BR RR hr cK
      go_wp2_with fail
      go_region_held3 (fun w' => w'.cell? ⟨w.heap.size, 0, none⟩ = some (.int .i64 g.w) ∧ w'.cell? ⟨w.heap.size, 1, none⟩ = some (.int .i64 g.i) ∧ w'.cell? ⟨w.heap.size, 2, none⟩ = some (.int .i64 g.b) ∧ w'.cell? ⟨gA, k, none⟩ = some (.slice ak nk ck) ∧ Nw wr w')
        (first | (exact ⟨b0, b1, b2, cKr, Nw.refl.drew⟩) | (exact ⟨(HBR.out.at ⟨(Nw.refl.drew.trans kx).b⟩).c0, (HBR.out.at ⟨(Nw.refl.drew.trans kx).b⟩).c1, (HBR.out.at ⟨(Nw.refl.drew.trans kx).b⟩).c2, HGR.out _ (Nw.refl.drew.trans kx), Nw.refl.drew.trans kx⟩))
        ((go_at_call 14; refine (HR1.out _ Nw.refl.drew).mono ?_; rintro e w4 ⟨a4, c4, rfl, hP4, kx⟩))
      obtain ⟨_, _, _, c4r, hn4⟩ : w4.cell? ⟨w.heap.size, 0, none⟩ = some (.int .i64 g.w) ∧ w4.cell? ⟨w.heap.size, 1, none⟩ = some (.int .i64 g.i) ∧ w4.cell? ⟨w.heap.size, 2, none⟩ = some (.int .i64 g.b) ∧ w4.cell? ⟨gA, k, none⟩ = some (.slice ak nk ck) ∧ Nw wr w4 := by assumption
      have HN4 := Lib.hid hn4
      have HP4 := Lib.hid hP4
      have RR4 := HRR.out.at ⟨hn4.b⟩
      have r0 := RR4.c0
      have r1 := RR4.c1
      have r2 := RR4.c2
      have HRR4 := Lib.hid RR4
      clear kx b0 b1 b2 cKr hn4 hP4 RR4 HBR
      go_wp2_with fail
      go_region_held3 (fun w' => w'.cell? ⟨w.heap.size + 1, 0, none⟩ = some (.int .i64 g.w) ∧ w'.cell? ⟨w.heap.size + 1, 1, none⟩ = some (.int .i64 g.i) ∧ w'.cell? ⟨w.heap.size + 1, 2, none⟩ = some (.int .i64 g.b) ∧ w'.cell? ⟨gA, k, none⟩ = some (.slice ak nk ck) ∧ Nw w4 w')
        (first | (exact ⟨r0, r1, r2, c4r, Nw.refl.drew⟩) | (exact ⟨(HRR4.out.at ⟨(Nw.refl.drew.trans kx).b⟩).c0, (HRR4.out.at ⟨(Nw.refl.drew.trans kx).b⟩).c1, (HRR4.out.at ⟨(Nw.refl.drew.trans kx).b⟩).c2, HGR.out _ (HN4.out.trans (Nw.refl.drew.trans kx)), Nw.refl.drew.trans kx⟩))
        ((go_at_call 15; refine (HR2.out _ HN4.out.drew).mono ?_; rintro e w5 ⟨a5, c5, rfl, hP5, kx⟩))
      obtain ⟨_, _, _, c5r, hn5⟩ : w5.cell? ⟨w.heap.size + 1, 0, none⟩ = some (.int .i64 g.w) ∧ w5.cell? ⟨w.heap.size + 1, 1, none⟩ = some (.int .i64 g.i) ∧ w5.cell? ⟨w.heap.size + 1, 2, none⟩ = some (.int .i64 g.b) ∧ w5.cell? ⟨gA, k, none⟩ = some (.slice ak nk ck) ∧ Nw w4 w5 := by assumption
      have HN5 := Lib.hid (HN4.out.trans hn5)
      have HP5 := Lib.hid hP5
      have HP4' := Lib.hid (HP4.out.nw hn5)
      clear kx r0 r1 r2 c4r hn5 hP5 HRR4
      have HSM := Lib.hid (fun (X : World) (h : Nw w5 X) => same5_len a4 rn c4 a5 c5 rl rl HRN.out HRN.out (by omega) X.heap.size X (HP4'.out.nw h) (HP5.out.nw h))
      rw [show decide (rl = rl) = true from decide_eq_true rfl] at HSM
      go_wp2_with fail
      go_region_held3 (fun w' => w'.cell? ⟨gA, k, none⟩ = some (.slice ak nk ck) ∧ Nw w5 w')
        (first | (exact ⟨c5r, Nw.refl.drew⟩) | (exact ⟨c5r, Nw.refl.drew.drewN _⟩) | (exact ⟨c5r, Nw.refl.drewN _⟩))
        ((first
          | (go_at_call 16; refine (HSM.out _ (by go_split_ands; assumption)).mono ?_; rintro e w6 ⟨rfl, m6, rfl⟩)
          | (go_at_call 17; refine (HM1.out _ (by go_split_ands; exact HN5.out.trans (by assumption))).mono ?_; rintro e w6 ⟨rfl, m7, rfl⟩)
          | (go_at_call 18; refine (HM2.out _ (by go_split_ands; exact HN5.out.trans (by assumption))).mono ?_; rintro e w6 ⟨rfl, m8, rfl⟩)))
      go_wp2_with fail
      go_roundw
      case rel => exact ⟨k + 1, by omega, by go_num, (HHR.out.trans HN5.out).drewN _⟩
      case measure => simp [intOf]; omega
    · obtain rfl : k = 5 := by omega
      go_wp2_with fail
      refine (works_ok _).mono ?_
      rintro e w6 ⟨rfl, hN6⟩
      go_wp2_with fail
      go_ret
      exact ⟨rfl, ((hn.trans hr).trans hN6).b⟩

end Go.Proofs.Ytnmgeembmmbhjaa
