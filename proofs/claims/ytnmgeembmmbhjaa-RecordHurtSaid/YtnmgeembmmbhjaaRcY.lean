/-
  THE WALK OF RecordHurt.
-/
import Derived.Deep.DeepCutAuto
import Derived.Test.YtnmgeembmmbhjaaRcW
import Derived.Test.YtnmgeembmmbhjaaRcP
namespace Go.Proofs.Ytnmgeembmmbhjaa
open Go.RowKit Go.Shelf
set_option linter.unusedVariables false

theorem idx_hurt (at_ len0 : Nat) (hl : len0 ≤ 96) : ∃ K : Nat, wrap64 (1 + (at_ : Int) % (2 + 2 * (len0 : Int) - 1)) = (K : Int) ∧ 0 < K ∧ K < 2 + 2 * len0 := by
  have hmod : at_ % (1 + 2 * len0) < 1 + 2 * len0 := Nat.mod_lt _ (by omega)
  refine ⟨1 + at_ % (1 + 2 * len0), ?_, by omega, by omega⟩
  rw [show (2 : Int) + 2 * (len0 : Int) - 1 = ((1 + 2 * len0 : Nat) : Int) by omega, ← Int.natCast_emod]
  generalize at_ % (1 + 2 * len0) = q at *
  unfold wrap64
  omega

set_option maxRecDepth 100000 in
set_option maxHeartbeats 8000000 in
theorem walk_hurt (g : G) (a0 : Option Addr) (len0 cap0 : Nat) (l : List Wr) (hl : l.length = len0) (hlm : len0 ≤ 9223372036854775807) (hok : okW l) (hwf : ∀ x ∈ l, (Lit.int .i64 x.1).wf = true)
    (at_ : Nat) (hat : at_ < 65536) (by_ : Int) (hby : u64 by_)
    (w : World) (hI : Pairs .i64 .u64 w.heap.size w a0 l) :
    Calls Try.prog 6 #[gV g, .slice a0 len0 cap0, .int .u16 (at_ : Int), .int .u64 by_] w fun e w' => e = .returned (.bool true) ∧ Below w.heap.size w w' := by
  obtain ⟨i0, hi, hz0, hz1, hz2⟩ := info_parts8 info_u64
  by_cases hbig : 200 < len0
  · clear hI hwf hl hok
    unfold gV
    go_enter Try.func6, Try.ntmps6
    go_wp2_with fail
    refine (works_ok _).mono ?_
    rintro e w1 ⟨rfl, hN⟩
    go_wp2_with fail
    go_ret
    exact ⟨rfl, ((Nw.refl.alloc _).trans hN).b⟩
  have B0 := Box.new w g 23
  have b0 := B0.c0
  have b1 := B0.c1
  have b2 := B0.c2
  have hn0 : Nw w (w.alloc (.cells #[.int .i64 g.w, .int .i64 g.i, .int .i64 g.b] 23)) := Nw.refl.alloc _
  have HMY := Lib.hid (rcmay_any g a0 cap0 _ l hwf _ (Nat.le_refl _) (hI.nw hn0) (by omega))
  have HW := Lib.hid (fun (W : World) (h : Nw w W) => words_any a0 cap0 _ l hok W (Nat.le_refl _) (hI.nw h) (by omega))
  rw [hl] at HMY HW
  have HL := Lib.hid hl
  have HI := Lib.hid hI
  have HU := Lib.hid hok
  obtain ⟨mm, hmm⟩ : ∃ mm, mayW g l = mm := ⟨_, rfl⟩
  rw [hmm] at HMY
  have HMM := Lib.hid hmm
  clear hl hwf hI hmm hok
  unfold gV at HMY ⊢
  go_enter Try.func6, Try.ntmps6
  go_wp2_with fail
  refine HMY.out.mono ?_
  rintro e w1 ⟨rfl, hN1⟩
  have B1 := B0.at ⟨hN1.b⟩
  have hn1 := hn0.trans hN1
  clear b0 b1 b2 B0 hN1 hn0 HMY
  cases mm with
  | false =>
    go_wp2_with fail
    refine (works_ok _).mono ?_
    rintro e w2 ⟨rfl, hN⟩
    go_wp2_with fail
    go_ret
    exact ⟨rfl, (hn1.trans hN).b⟩
  | true =>
  have h96 : len0 ≤ 96 := by have := (may_small HMM.out).1; rw [HL.out] at this; exact this
  obtain ⟨e1, e2⟩ := words_ok (l := l) (by rw [HL.out]; exact h96) (may_neg HMM.out)
  obtain ⟨K, hK, hK1, hK2⟩ := idx_hurt at_ len0 h96
  obtain ⟨ws, hws⟩ : ∃ ws, recL l = ws := ⟨_, rfl⟩
  have HWL := Lib.hid (show ws.length = 2 + 2 * len0 from by rw [← hws, recL_len, HL.out])
  have HWU := Lib.hid (show ∀ x ∈ ws, u64 x from by rw [← hws]; exact rec_u64 (by rw [HL.out]; exact h96) HU.out (may_neg HMM.out))
  obtain ⟨x, hx⟩ : ∃ x, ws[K]?.getD 0 = x := ⟨_, rfl⟩
  obtain ⟨us, hus⟩ : ∃ us, ws.set K (bits .xor .u64 x by_) = us := ⟨_, rfl⟩
  have HX := Lib.hid hx
  have HUS := Lib.hid hus
  have HUL := Lib.hid (show us.length = 2 + 2 * len0 from by rw [← hus, List.length_set, HWL.out])
  have HUU := Lib.hid (show ∀ x ∈ us, u64 x from by rw [← hus]; exact u64_set HWU.out (xor_u64_range _ _))
  have HOK := Lib.hid (show readOk g us = (by_ == 0) from by rw [← hus, ← hx, ← hws]; exact hurt_ok HMM.out HU.out hK1 (by rw [HL.out]; exact hK2) hby)
  have HPR := Lib.hid (fun (h : by_ = 0) => show pairsN us (readN us) = l from by rw [← hus, ← hx, ← hws]; exact hurt_pairs (by rw [HL.out]; exact h96) hK1 h (by rw [hws]; exact HWU.out) (by rw [HL.out]; exact hK2))
  have HC1 := Lib.hid (show readOk g (ws.take K) = false from by rw [← hws]; exact cut_read hK1 (by rw [HL.out]; exact hK2))
  have HC2 := Lib.hid (show markV (ws.take K) = 0 from by rw [← hws]; exact cut_mark hK1 (by rw [HL.out]; exact hK2))
  have HCL := Lib.hid (show (ws.take K).length = K from by rw [List.length_take, HWL.out]; omega)
  have HCU := Lib.hid (show ∀ x ∈ ws.take K, u64 x from fun x hx => HWU.out x (List.mem_of_mem_take hx))
  rw [hws] at e1
  clear hws hx hus
  have hKK := hK
  have HW1 := Lib.hid (HW.out w1 hn1)
  go_wp2_with fail
  refine HW1.out.mono ?_
  intro e w2 h2
  obtain ⟨a2, c2, rfl, hc2, hI2, hN2⟩ := h2.own (n := 2 + 2 * len0) (by rw [e1, HWL.out])
  rw [e2]
  rw [e1] at hI2
  obtain ⟨ab, ao, rfl, _, _⟩ := hI2.at (j := 0) (by rw [HWL.out]; omega)
  have B2 := B1.at ⟨hN2.b⟩
  have hn2 := hn1.trans hN2
  have HI2 := Lib.hid hI2
  clear h2 e1 e2 B1 hn1 hN2 HW1 HW hI2
  have hK3 : (K : Int) < 2 + 2 * (len0 : Int) := by omega
  go_upto_region 9 with (first
    | (at_builtin; refine wpList_append_ints _ rfl (.tmp 50) (.tmp 51) 25 rfl w2.heap.size 27 i0 (.int .u64 0) 8 Try.underlying25 hi hz0 hz1 hz2 rfl _ 0 [] rfl (World.ownsRow_made _ #[] 0 (Nat.le_refl _) (Nat.zero_le _) (by simp)) _ (2 + 2 * len0) c2 .u64 ws _ rfl HWL.out (Ints.below (Nw.refl.alloc _).b HI2.out) (by unfold maxLen; omega) (by omega) (by simp) ?_; intro v3 w3 hown3 hgrow3; have hb3 : Below w2.heap.size w2 w3 := ((Below.refl _ w2).alloc (Nat.le_refl _) _).grown hgrow3 (by simp) (fun k e => by cases e; exact Nat.le_refl _); clear hgrow3; simp only [Nat.zero_add, List.nil_append] at hown3; obtain ⟨gg, c3, rfl, hg⟩ := own_pos hown3 (by omega); have hs3 := hb3.size; have cK := own_cell hown3 (j := K) (by omega); rw [HX.out] at cK; have fK := hown3.frozenAt K)
    | fail)
  have hown4 := own_set hown3 K (bits .xor .u64 x by_)
  have hb4 := hb3.setCell (p := ⟨gg, K, none⟩) hg.1 (.int .u64 (bits .xor .u64 x by_))
  rw [HUS.out] at hown4
  obtain ⟨W4, hW4⟩ : ∃ W4, w3.setCell ⟨gg, K, none⟩ (.int .u64 (bits .xor .u64 x by_)) = W4 := ⟨_, rfl⟩
  rw [hW4] at hown4 hb4 ⊢
  have B4 := B2.at ⟨hb4⟩
  have hn4 := hn2.trans ⟨hb4⟩
  have HI4 := Lib.hid ((HI2.out.below hb4).mono hb4.size)
  have hI5 := Ints.of_owns hown4
  have hc5 := own_cap hown4
  clear hW4 cK fK hown3 hown4 hb3 hs3 hg hb4 B2 hn2 hi hz0 hz1 hz2
  have b0 := B4.c0
  have b1 := B4.c1
  have b2 := B4.c2
  obtain ⟨rl, hrl⟩ : ∃ rl, readL g us = rl := ⟨_, rfl⟩
  obtain ⟨re, hre⟩ : ∃ re, readE g us = re := ⟨_, rfl⟩
  have HRL := Lib.hid hrl
  have HRE := Lib.hid hre
  clear hrl hre
  have HR := Lib.hid (read_own (g := g) HUL.out (by omega) hc5 hI5 HUU.out W4)
  unfold gV at HR
  clear hI5 hc5
  go_wp2_with fail
  refine HR.out.mono ?_
  intro e w5 h5
  rw [HRL.out, HRE.out] at h5
  obtain ⟨a5, c5, rfl, hP5, hN5⟩ := h5
  clear b0 b1 b2 HR
  have B5 := B4.at ⟨hN5.b⟩
  have hn5 := hn4.trans hN5
  have HI5 := Lib.hid (Ints.nw (n := 0) hN5 HI4.out)
  have HP5 := Lib.hid hP5
  clear B4 hn4 hN5 hP5
  have b0 := B5.c0
  have b1 := B5.c1
  have b2 := B5.c2
  have hr0 : readL g (ws.take K) = [] := if_neg (by rw [HC1.out]; decide)
  have hr1 : readE g (ws.take K) = 4 := if_neg (by rw [HC1.out]; decide)
  have HRC := Lib.hid (fun (X : World) (h : Nw w5 X) => show Calls Try.prog 14 #[gV g, .slice (some ⟨ab, ao, none⟩) K c2] X (fun e w' => ∃ a' cap', e = .returned (.tuple #[.slice a' 0 cap', .int .i64 4]) ∧ Nw X w') from by
    have h1 := read_any g (some ⟨ab, ao, none⟩) c2 X.heap.size (ws.take K) (by rw [HCL.out]; omega) HCU.out (by rw [HCL.out]; omega) X (Nat.le_refl _) (Ints.take K (Ints.nw (n := 0) h HI5.out))
    rw [HCL.out] at h1
    refine h1.mono ?_
    rintro e w' ⟨a', cap', he, _, _, hN⟩
    rw [hr0, hr1] at he
    exact ⟨a', cap', he, hN⟩)
  have HMC := Lib.hid (fun (X : World) (h : Nw w5 X) => show Calls Try.prog 17 #[.slice (some ⟨ab, ao, none⟩) K c2] X (Quietly (.int .u64 0) X) from by
    have h1 := mark_any (some ⟨ab, ao, none⟩) c2 X.heap.size (ws.take K) (by rw [HCL.out]; omega) HCU.out (by rw [HCL.out]; omega) X (Ints.take K (Ints.nw (n := 0) h HI5.out))
    rw [HCL.out, HC2.out] at h1
    exact h1)
  unfold gV at HRC
  clear hr0 hr1
  have hKc : (K : Int) ≤ (c2 : Int) := by omega
  have hKz : (0 : Int) ≤ (K : Int) := by omega
  go_wp2_with fail
  go_region_held3 (fun w' => w'.cell? ⟨w.heap.size, 0, none⟩ = some (.int .i64 g.w) ∧ w'.cell? ⟨w.heap.size, 1, none⟩ = some (.int .i64 g.i) ∧ w'.cell? ⟨w.heap.size, 2, none⟩ = some (.int .i64 g.b) ∧ Nw w5 w')
    (first | (exact ⟨b0, b1, b2, Nw.refl.drew⟩) | (go_split_ands; exact ⟨(Box.at ⟨by assumption, by assumption, by assumption⟩ ⟨kx.b⟩).c0, (Box.at ⟨by assumption, by assumption, by assumption⟩ ⟨kx.b⟩).c1, (Box.at ⟨by assumption, by assumption, by assumption⟩ ⟨kx.b⟩).c2, Nw.trans (by assumption) kx⟩))
    ((go_at_call 14; refine (HRC.out _ Nw.refl.drew).mono ?_; rintro e w6 ⟨a6, c6, rfl, kx⟩))
  obtain ⟨_, _, _, hn6⟩ : w6.cell? ⟨w.heap.size, 0, none⟩ = some (.int .i64 g.w) ∧ w6.cell? ⟨w.heap.size, 1, none⟩ = some (.int .i64 g.i) ∧ w6.cell? ⟨w.heap.size, 2, none⟩ = some (.int .i64 g.b) ∧ Nw w5 w6 := by assumption
  have HP6 := Lib.hid (HP5.out.nw hn6)
  have HN6 := Lib.hid (hn5.trans hn6)
  have HMC2 := Lib.hid (fun (X : World) (h : Nw w6 X) => HMC.out X (hn6.trans h))
  clear kx b0 b1 b2 hn6 HRC HMC B5 hn5
  by_cases hby0 : by_ = 0
  · subst hby0
    obtain rfl : re = 0 := by rw [← HRE.out]; exact if_pos (by rw [HOK.out]; rfl)
    obtain rfl : rl = l := by rw [← HRL.out]; exact (if_pos (by rw [HOK.out]; rfl)).trans (HPR.out rfl)
    rw [HL.out]
    have HSM := Lib.hid (same5_len a5 len0 c5 a0 cap0 rl rl HL.out HL.out (by omega) w6.heap.size w6 HP6.out (HI.out.nw HN6.out))
    rw [show decide (rl = rl) = true from decide_eq_true rfl] at HSM
    go_wp2_with fail
    refine HSM.out.mono ?_
    rintro e w7 ⟨rfl, m7, rfl⟩
    have HM7 := Lib.hid (HMC2.out (w6.drewN m7) (Nw.refl.drewN m7))
    go_wp2_with fail
    refine HM7.out.mono ?_
    rintro e w8 ⟨rfl, m8, rfl⟩
    go_wp2_with fail
    refine (works_ok _).mono ?_
    rintro e w9 ⟨rfl, hN9⟩
    go_wp2_with fail
    go_ret
    exact ⟨rfl, ((HN6.out.drewN _).trans hN9).b⟩
  · have hb0 : (by_ == 0) = false := by simpa using hby0
    obtain rfl : re = 4 := by rw [← HRE.out]; exact if_neg (by rw [HOK.out, hb0]; decide)
    obtain rfl : rl = [] := by rw [← HRL.out]; exact if_neg (by rw [HOK.out, hb0]; decide)
    rw [show ([] : List Wr).length = 0 from rfl]
    have HM7 := Lib.hid (HMC2.out w6 Nw.refl)
    go_wp2_with fail
    refine HM7.out.mono ?_
    rintro e w8 ⟨rfl, m8, rfl⟩
    go_wp2_with fail
    refine (works_ok _).mono ?_
    rintro e w9 ⟨rfl, hN9⟩
    go_wp2_with fail
    go_ret
    exact ⟨rfl, ((HN6.out.drewN m8).trans hN9).b⟩

end Go.Proofs.Ytnmgeembmmbhjaa
