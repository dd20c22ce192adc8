/-
  THE WALK OF RecordBack.
-/
import Derived.Lib.SmallJoins
import Derived.Test.YtnmgeembmmbhjaaRcU
namespace Go.Proofs.Ytnmgeembmmbhjaa
open Go.RowKit Go.Shelf
set_option linter.unusedVariables false

theorem wp_append_ints {P : Program} {w : World} {o : Oper} {a : Act} {K : Act → World → Prop} {Q : Exit → Act → World → Prop} (s x : Operand) (t : TypeId)
    (ho : o.op = .call { callee := .builtin .append, args := #[s, x], argTypes := #[t, t] })
    (base : Nat) (e : TypeId) (i : TypeInfo) (z : Value) (bytes : Nat) (ht : P.underlying t = some (.slice e)) (hi : P.info? e = some i) (hz : i.zero = some z)
    (hsize : i.size = 1) (hby : i.bytes = bytes) (hzs : z.cells.size = 1)
    (v : Value) (n : Nat) (xs : List Value) (hs : a.eval s = v) (hown : w.ownsRow base e 1 v n xs)
    (ax : Option Addr) (len c : Nat) (k : IntKind) (zs : List Int) (n₀ : Nat) (hx : a.eval x = .slice ax len c) (hl : zs.length = len) (hI : Ints n₀ k w ax zs)
    (h63 : n + len ≤ maxLen) (hbytes : (n + len) * bytes ≤ 140737488355328) (hbase : base ≤ w.heap.size)
    (h : ∀ v' w', w'.ownsRow base e 1 v' (n + len) (xs ++ zs.map (.int k)) → w.grownBy w' v.ownBlock → K (a.put o.dst v') w') : o.wp P a w K Q := by
  subst hl
  rcases hI with rfl | ⟨b, off, rfl, hb, hc⟩
  · have hrun := run_append_empty (P := P) w base t o.type e i 1 c ht hi v n xs hown ax
    have h' := h v w (by simpa using hown) ⟨rfl, rfl, rfl, Nat.le_refl _, fun _ _ _ => rfl⟩
    unfold Oper.wp
    simp only [List.length_nil] at hx
    simp [execOp, ho, resolve, invoke, builtin, hs, hx, hrun, Result.andThen]
    exact h'
  · refine wp_append_own w s x t ho base e i z 1 bytes ht hi hz hsize hby hzs (by decide) v n xs hs hown ⟨b, off, none⟩ zs.length c (zs.map (.int k)) hx (by simp) ?_ (by simp [Value.oneCell']) h63 hbytes hbase (fun v' w' h1 h2 _ => h v' w' h1 h2)
    intro j u hu
    simp at hu
    obtain ⟨y, hy, rfl⟩ := hu
    have hj : j < zs.length := (List.getElem?_eq_some_iff.1 hy).1
    rw [Addr.add_lit, hc j hj, hy]; rfl
/-- Read, of words of one's own. -/
theorem read_own {g : G} {ws : List Int} {n : Nat} (hn : ws.length = n) (hr : n * 8 ≤ 140737488351232) {a : Option Addr} {cap : Nat} (hc : n ≤ cap) {w0 : World}
    (hI : ∃ a' cap', Value.slice a n cap = .slice a' n cap' ∧ ws.length = n ∧ Ints w0.heap.size .u64 w0 a' ws) (hu : ∀ x ∈ ws, u64 x) (w : World) (hw : w = w0 := by rfl) :
    Calls Try.prog 14 #[gV g, .slice a n cap] w fun e w' => ∃ a' cap', e = .returned (.tuple #[.slice a' (readL g ws).length cap', .int .i64 (readE g ws)]) ∧ Pairs .i64 .u64 w'.heap.size w' a' (readL g ws) ∧ Nw w w' := by
  subst hw
  obtain ⟨a', cap', he, _, hI⟩ := hI
  simp only [Value.slice.injEq, true_and] at he
  obtain ⟨rfl, rfl⟩ := he
  subst hn
  refine (read_any g a cap _ ws hc hu hr w (Nat.le_refl _) hI).mono ?_
  rintro e w' ⟨a', cap', h1, _, h2, h3⟩
  exact ⟨a', cap', h1, h2, h3⟩
theorem may_bad {g : G} {l : List Wr} (h : wordsE l ≠ 0) : mayW g l = false := by
  rw [Bool.eq_false_iff]
  intro hm
  have h1 := (may_small hm).1
  exact h (words_ok h1 (may_neg hm)).2
theorem mark_walk {M n : Int} (h0 : 0 ≤ M) (h1 : M < 18446744073709551616) (h2 : M / 256 % 256 = n) : wrap64 ((IntKind.u64.wrap (M.tdiv 256)).tmod 256) = n := by
  have e1 : M.tdiv 256 = M / 256 := Int.tdiv_eq_ediv_of_nonneg h0
  rw [e1, wrap_u64]
  have h3 : M / 256 % 18446744073709551616 = M / 256 := by omega
  rw [h3, Int.tmod_eq_emod_of_nonneg (by omega), h2]
  have : 0 ≤ n ∧ n < 256 := by omega
  unfold wrap64
  omega
theorem mark_bd {s n : Int} (h0 : 0 ≤ n) (h1 : n ≤ 96) : 0 ≤ s * 65536 % 18446744073709551616 + n * 256 + 1 ∧ s * 65536 % 18446744073709551616 + n * 256 + 1 < 18446744073709551616 := by omega
theorem mark_mod {s n : Int} (h0 : 0 ≤ n) (h1 : n ≤ 96) : (s * 65536 % 18446744073709551616 + n * 256 + 1) % 256 = 1 ∧ (s * 65536 % 18446744073709551616 + n * 256 + 1) / 256 % 256 = n := by
  omega

set_option maxRecDepth 100000 in
set_option maxHeartbeats 8000000 in
theorem walk_back (g : G) (a0 : Option Addr) (len0 cap0 : Nat) (l : List Wr) (hl : l.length = len0) (hlm : len0 ≤ 9223372036854775807) (hok : okW l) (hwf : ∀ x ∈ l, (Lit.int .i64 x.1).wf = true)
    (a1 : Option Addr) (len1 cap1 : Nat) (zs : List Int) (hzl : zs.length = len1) (hr1 : len1 * 8 ≤ 140737488351232) (hzu : ∀ x ∈ zs, u64 x)
    (w : World) (hI : Pairs .i64 .u64 w.heap.size w a0 l) (hIz : Ints w.heap.size .u64 w a1 zs) :
    Calls Try.prog 4 #[gV g, .slice a0 len0 cap0, .slice a1 len1 cap1] w fun e w' => e = .returned (.bool true) ∧ Below w.heap.size w w' := by
  obtain ⟨i0, hi, hz0, hz1, hz2⟩ := info_parts8 info_u64
  by_cases hbig : 200 < len0 ∨ 100 < len1
  · have hd : (decide (200 < (len0 : Int)) || decide (100 < (len1 : Int))) = true := by simp; omega
    clear hok hI hl hIz hzl hzu hwf
    rcases hbig with hbig | hbig
    · have hd1 : decide (200 < (len0 : Int)) = true := by simp; omega
      go_enter Try.func4, Try.ntmps4
      go_wp2_with fail
      refine (works_ok _).mono ?_
      rintro e w1 ⟨rfl, hN⟩
      go_wp2_with fail
      go_ret
      exact ⟨rfl, ((Nw.refl.alloc _).trans hN).b⟩
    · by_cases hd1 : 200 < len0
      all_goals
        go_enter Try.func4, Try.ntmps4
        go_wp2_with fail
        refine (works_ok _).mono ?_
        rintro e w1 ⟨rfl, hN⟩
        go_wp2_with fail
        go_ret
        exact ⟨rfl, ((Nw.refl.alloc _).trans hN).b⟩
  have h200 : len0 ≤ 200 := by omega
  have h100 : len1 ≤ 100 := by omega
  have B0 := Box.new w g 23
  have hn0 : Nw w (w.alloc (.cells #[.int .i64 g.w, .int .i64 g.i, .int .i64 g.b] 23)) := Nw.refl.alloc _
  have hIa := hI.nw hn0
  have HW := Lib.hid (words_any a0 cap0 _ l hok _ (Nat.le_refl _) hIa (by omega))
  have HMY := Lib.hid (fun (W : World) (h : Nw w W) => rcmay_any g a0 cap0 _ l hwf W (Nat.le_refl _) (hI.nw h) (by omega))
  rw [hl] at HW HMY
  have HL := Lib.hid hl
  have HZL := Lib.hid hzl
  have HIZ := Lib.hid hIz
  have HIP := Lib.hid hI
  have HU := Lib.hid hok
  have HZU := Lib.hid hzu
  unfold gV at HMY ⊢
  clear hl hzl hIz hok hzu hI hbig hIa hwf
  by_cases hbad : wordsE l ≠ 0
  · have e1 : wordsL l = [] := by
      unfold wordsL; split
      · rfl
      · rename_i h; exact absurd (words_ok (l := l) (by omega) (by simpa using fun hh => h (.inr hh))).2 hbad
    have HMB := Lib.hid (may_bad (g := g) hbad)
    obtain ⟨q, hq⟩ : ∃ q, wordsE l = q := ⟨_, rfl⟩
    have HQ := Lib.hid hq
    have hq0 : (q != 0) = true := by rw [bne_iff_ne, ← hq]; exact hbad
    rw [HMB.out] at HMY
    clear hbad hq
    go_enter Try.func4, Try.ntmps4
    go_wp2_with fail
    refine HW.out.mono ?_
    intro e w1 h1
    obtain ⟨a2, c2, rfl, hc2, _, hN1⟩ := h1.own (n := 0) (by rw [e1]; rfl)
    rw [HQ.out]
    have B1 := B0.at ⟨hN1.b⟩
    have hn1 := hn0.trans hN1
    have b0 := B1.c0
    have b1 := B1.c1
    have b2 := B1.c2
    clear h1 e1 B0 hn0 hN1
    go_wp2_with fail
    refine (HMY.out w1 hn1).mono ?_
    rintro e w2 ⟨rfl, hN2⟩
    clear b0 b1 b2
    go_wp2_with fail
    refine (works_ok _).mono ?_
    rintro e w3 ⟨rfl, hN3⟩
    go_wp2_with fail
    go_ret
    exact ⟨rfl, ((hn1.trans hN2).trans hN3).b⟩
  have h96 : len0 ≤ 96 := by
    have := HL.out
    apply Classical.byContradiction; intro hh; exact hbad (by rw [(words_many (l := l) (by omega)).2]; decide)
  have hg : neg l = false := by
    rw [Bool.eq_false_iff]; intro hh; exact hbad (by rw [(words_neg (l := l) (by rw [HL.out]; exact h96) hh).2]; decide)
  obtain ⟨e1, e2⟩ := words_ok (l := l) (by rw [HL.out]; exact h96) hg
  obtain ⟨ws, hws⟩ : ∃ ws, recL l = ws := ⟨_, rfl⟩
  have HWL := Lib.hid (show ws.length = 2 + 2 * len0 from by rw [← hws, recL_len, HL.out])
  have HWU := Lib.hid (show ∀ x ∈ ws, u64 x from by rw [← hws]; exact rec_u64 (by rw [HL.out]; exact h96) HU.out hg)
  have HZZ := Lib.hid (show ∀ x ∈ ws ++ zs, u64 x from fun x hx => (List.mem_append.1 hx).elim (HWU.out x) (HZU.out x))
  have HZN := Lib.hid (show (ws ++ zs).length = 2 + 2 * len0 + len1 from by rw [List.length_append, HWL.out, HZL.out])
  have hH0 := Has.of_rec (l := l) (by rw [HL.out]; exact h96) []
  have hHz := Has.of_rec (l := l) (by rw [HL.out]; exact h96) zs
  rw [List.append_nil, hws] at hH0
  rw [hws] at hHz e1
  obtain ⟨M, hM⟩ : ∃ M, markV ws = M := ⟨_, rfl⟩
  have HMM := Lib.hid (show M % 256 = 1 ∧ M / 256 % 256 = (len0 : Int) from by rw [← hM, hH0.mark (sumOf_range _), HL.out]; exact mark_mod (by omega) (by omega))
  have hROK := hHz.ok_may g
  have HM := Lib.hid hM
  have hMb : 0 ≤ M ∧ M < 18446744073709551616 := by rw [← hM, hH0.mark (sumOf_range _), HL.out]; exact mark_bd (by omega) (by omega)
  have hM6 : wrap64 ((IntKind.u64.wrap (M.tdiv 256)).tmod 256) = (len0 : Int) := mark_walk hMb.1 hMb.2 HMM.out.2
  have hM0 := hMb.1
  have hM3 : M.tmod 256 = 1 := by rw [Int.tmod_eq_emod_of_nonneg hM0]; exact HMM.out.1
  have hM4 : M % 256 = 1 := HMM.out.1
  have hM5 : M / 256 % 256 = (len0 : Int) := HMM.out.2
  have HRP := Lib.hid (show pairsN (ws ++ zs) (readN (ws ++ zs)) = l from by rw [hHz.readN, hHz.pairs])
  clear hbad hg hws hM hH0 hHz
  obtain ⟨mm, hmm⟩ : ∃ mm, mayW g l = mm := ⟨_, rfl⟩
  rw [hmm] at hROK HMY
  obtain ⟨re, hre⟩ : ∃ re, readE g (ws ++ zs) = re := ⟨_, rfl⟩
  obtain ⟨rl, hrl⟩ : ∃ rl, readL g (ws ++ zs) = rl := ⟨_, rfl⟩
  have HRE := Lib.hid hre
  have HRL := Lib.hid hrl
  have HRE2 := Lib.hid (show re = if mm = true then 0 else 4 from by rw [← hre]; unfold readE; rw [hROK])
  have HRL2 := Lib.hid (show rl = if mm = true then l else [] from by rw [← hrl]; unfold readL; rw [hROK, HRP.out])
  clear hre hrl
  clear hmm hROK
  go_enter Try.func4, Try.ntmps4
  go_wp2_with fail
  refine HW.out.mono ?_
  intro e w1 h1
  obtain ⟨a2, c2, rfl, hc2, hI2, hN1⟩ := h1.own (n := 2 + 2 * len0) (by rw [e1, HWL.out])
  rw [e2]
  rw [e1] at hI2
  have B1 := B0.at ⟨hN1.b⟩
  have hn1 := hn0.trans hN1
  have HMA := Lib.hid (mark_any a2 c2 w1.heap.size ws (by rw [HWL.out]; exact hc2) HWU.out (by rw [HWL.out]; omega) w1 hI2)
  rw [HWL.out, HM.out] at HMA
  clear h1 e1 e2 B0 hn0 hN1
  go_wp2_with fail
  refine HMA.out.mono ?_
  rintro e w2 ⟨rfl, m, rfl⟩
  have hnW := hn1.drewN m
  have hI2 := Ints.nw (n := 0) (nw_drewN w1 m) hI2
  have BW := B1.at ⟨(nw_drewN w1 m).b⟩
  obtain ⟨W, hW⟩ : ∃ W, w1.drewN m = W := ⟨_, rfl⟩
  rw [hW] at hnW hI2 BW ⊢
  clear hW B1 hn1 HMA
  go_wp2_with fail
  have HBX := Lib.hid (fun (X : World) (h : Below W.heap.size W X) => BW.at ⟨h⟩)
  have HI2 := Lib.hid hI2
  have HIZ2 := Lib.hid (Ints.nw (n := 0) hnW HIZ.out)
  clear hM0 hM3 hM4 hM5 hM6 hMb hI2
  refine wp_region_noPanic ?_
  refine wp_region_held_drew (S := (fun w' => w'.cell? ⟨w.heap.size, 0, none⟩ = some (.int .i64 g.w) ∧ w'.cell? ⟨w.heap.size, 1, none⟩ = some (.int .i64 g.i) ∧ w'.cell? ⟨w.heap.size, 2, none⟩ = some (.int .i64 g.b))) (by kernel_rfl) ?_ (fun hHeld => ?_)
  · exact ⟨(HBX.out _ Nw.refl.drew.b).c0, (HBX.out _ Nw.refl.drew.b).c1, (HBX.out _ Nw.refl.drew.b).c2⟩
  refine takeD (i := 0) (v := ?_) 67 rfl rfl ?_ ?_ ?_ (fun _ _ _ h => h) ?_ (by assumption) ?_
  rotate_left
  · kernel_rfl
  · kernel_rfl
  · kernel_rfl
  · refine Or.inl (And.intro ?_ ?_)
    · rfl
    · intro w hSw
      try dsimp only at hSw
      first | (go_simp; done) | (go_simp; with_reducible rfl)
  simp only [List.setIfInBounds_toArray, List.set_cons_zero, List.set_cons_succ]
  refine takeD (i := 2) (v := ?_) 69 rfl rfl ?_ ?_ ?_ (fun _ _ _ h => h) ?_ (by assumption) ?_
  rotate_left
  · kernel_rfl
  · kernel_rfl
  · kernel_rfl
  · refine Or.inl (And.intro ?_ ?_)
    · rfl
    · intro w hSw
      try dsimp only at hSw
      first | (go_simp; done) | (go_simp; with_reducible rfl)
  simp only [List.setIfInBounds_toArray, List.set_cons_zero, List.set_cons_succ]
  refine takeD (i := 4) (v := ?_) 71 rfl rfl ?_ ?_ ?_ (fun _ _ _ h => h) ?_ (by assumption) ?_
  rotate_left
  · kernel_rfl
  · kernel_rfl
  · kernel_rfl
  · refine Or.inl (And.intro ?_ ?_)
    · rfl
    · intro w hSw
      try dsimp only at hSw
      first | (go_simp; done) | (go_simp; with_reducible rfl)
  simp only [List.setIfInBounds_toArray, List.set_cons_zero, List.set_cons_succ]
  refine wpAnyH_ready (rs := [1]) (by kernel_rfl) (by simp) ?_
  refine AllReadyH.cons rfl (fun K hK => ?_) AllReadyH.nil
  go_simp
  refine hK.out _ _ ?_ (fun hHeld2 => ?_)
  · exact ⟨(HBX.out _ (Nw.refl.drew.alloc _).b).c0, (HBX.out _ (Nw.refl.drew.alloc _).b).c1, (HBX.out _ (Nw.refl.drew.alloc _).b).c2⟩
  have hHeld := hHeld2
  clear hHeld2 hK K
  refine wpAnyH_ready (rs := [3]) (by kernel_rfl) (by simp) ?_
  refine AllReadyH.cons rfl (fun K hK => ?_) AllReadyH.nil
  refine ready_if rfl ?_
  refine wp_append_ints (.tmp 68) (.tmp 69) 25 rfl W.heap.size 27 i0 (.int .u64 0) 8 Try.underlying25 hi hz0 hz1 hz2 rfl _ 0 [] rfl (World.ownsRow_made W.drew #[] 0 (Nat.le_refl _) (Nat.zero_le _) (by simp)) _ (2 + 2 * len0) c2 .u64 ws W.heap.size rfl HWL.out (Ints.below (Nw.refl.drew.alloc _).b HI2.out) (by unfold maxLen; omega) (by omega) (by simp) ?_
  intro v4 w4 hown4 hgrow4
  go_simp
  have hb4 : Below W.heap.size W w4 := Below.grown (w := W.drew.alloc (.cells #[] 27)) (Nw.refl.drew.alloc _).b hgrow4 (by simp) (fun k e => by cases e; exact Nat.le_refl _)
  simp only [Nat.zero_add, List.nil_append] at hown4
  clear hgrow4
  refine hK.out _ _ ?_ (fun hHeld2 => ?_)
  · exact ⟨(HBX.out _ hb4).c0, (HBX.out _ hb4).c1, (HBX.out _ hb4).c2⟩
  have hHeld := hHeld2
  clear hHeld2 hK K
  refine wpAnyH_ready (rs := [5]) (by kernel_rfl) (by simp) ?_
  refine AllReadyH.cons rfl (fun K hK => ?_) AllReadyH.nil
  refine ready_if rfl ?_
  refine wp_append_ints (.tmp 70) (.tmp 71) 25 rfl W.heap.size 27 i0 (.int .u64 0) 8 Try.underlying25 hi hz0 hz1 hz2 rfl _ _ _ rfl hown4 _ len1 cap1 .u64 zs W.heap.size rfl HZL.out (Ints.below hb4 HIZ2.out) (by unfold maxLen; omega) (by omega) hb4.size ?_
  intro v5 w5 hown5 hgrow5
  rw [← List.map_append] at hown5
  obtain ⟨v5, c5, rfl⟩ := own_slice hown5
  go_simp
  have hb5 : Below W.heap.size W w5 := Below.grownRow hb4 hgrow5 hb4.size hown4 (Nat.le_refl _)
  have hI5 := Ints.of_owns hown5
  have hc5 := own_cap hown5
  clear hgrow5 hown4 hown5 hb4
  refine hK.out _ _ ?_ (fun hHeld2 => ?_)
  · exact ⟨(HBX.out _ hb5).c0, (HBX.out _ hb5).c1, (HBX.out _ hb5).c2⟩
  have hHeld := hHeld2
  clear hHeld2 hK K
  refine wpAnyH_ready (rs := [6]) (by kernel_rfl) (by simp) ?_
  refine AllReadyH.cons rfl (fun K hK => ?_) AllReadyH.nil
  go_simp
  go_wp2_with (go_at_call 14; refine (read_own (g := g) HZN.out (by omega) hc5 hI5 HZZ.out w5).mono ?_; intro e w6 h6; rw [HRL.out, HRE.out] at h6; obtain ⟨a6, c6, rfl, hP6, hN6⟩ := h6)
  refine hK.out _ _ ?_ (fun hHeld2 => ?_)
  · exact ⟨(HBX.out _ (hb5.trans (hN6.b.mono hb5.size))).c0, (HBX.out _ (hb5.trans (hN6.b.mono hb5.size))).c1, (HBX.out _ (hb5.trans (hN6.b.mono hb5.size))).c2⟩
  have hHeld := hHeld2
  clear hHeld2 hK K
  refine takeD (i := 7) (v := ?_) 66 rfl rfl ?_ ?_ ?_ (fun _ _ _ h => h) ?_ (by assumption) ?_
  rotate_left
  · kernel_rfl
  · kernel_rfl
  · kernel_rfl
  · refine Or.inl (And.intro ?_ ?_)
    · rfl
    · intro w hSw
      try dsimp only at hSw
      first | (go_simp; done) | (go_simp; with_reducible rfl)
  simp only [List.setIfInBounds_toArray, List.set_cons_zero, List.set_cons_succ]
  refine takeD (i := 8) (v := ?_) 74 rfl rfl ?_ ?_ ?_ (fun _ _ _ h => h) ?_ (by assumption) ?_
  rotate_left
  · kernel_rfl
  · kernel_rfl
  · kernel_rfl
  · refine Or.inl (And.intro ?_ ?_)
    · rfl
    · intro w hSw
      try dsimp only at hSw
      first | (go_simp; done) | (go_simp; with_reducible rfl)
  simp only [List.setIfInBounds_toArray, List.set_cons_zero, List.set_cons_succ]
  refine takeD (i := 9) (v := ?_) 75 rfl rfl ?_ ?_ ?_ (fun _ _ _ h => h) ?_ (by assumption) ?_
  rotate_left
  · kernel_rfl
  · kernel_rfl
  · kernel_rfl
  · refine Or.inl (And.intro ?_ ?_)
    · rfl
    · intro w hSw
      try dsimp only at hSw
      first | (go_simp; done) | (go_simp; with_reducible rfl)
  simp only [List.setIfInBounds_toArray, List.set_cons_zero, List.set_cons_succ]
  refine takeD (i := 10) (v := ?_) 10 rfl rfl ?_ ?_ ?_ (fun _ _ _ h => h) ?_ (by assumption) ?_
  rotate_left
  · kernel_rfl
  · kernel_rfl
  · kernel_rfl
  · refine Or.inl (And.intro ?_ ?_)
    · rfl
    · intro w hSw
      try dsimp only at hSw
      first | (go_simp; done) | (go_simp; with_reducible rfl)
  simp only [List.setIfInBounds_toArray, List.set_cons_zero, List.set_cons_succ]
  refine takeD (i := 11) (v := ?_) 11 rfl rfl ?_ ?_ ?_ (fun _ _ _ h => h) ?_ (by assumption) ?_
  rotate_left
  · kernel_rfl
  · kernel_rfl
  · kernel_rfl
  · refine Or.inl (And.intro ?_ ?_)
    · rfl
    · intro w hSw
      try dsimp only at hSw
      first | (go_simp; done) | (go_simp; with_reducible rfl)
  simp only [List.setIfInBounds_toArray, List.set_cons_zero, List.set_cons_succ]
  refine wpAnyH_done (by kernel_rfl) ?_ _
  refine NoPanic.normal ?_
  have HB6 := Lib.hid (hnW.b.trans ((hb5.trans (hN6.b.mono hb5.size)).mono hnW.b.size))
  obtain ⟨b0, b1, b2⟩ := hHeld
  have HMY6 := Lib.hid (HMY.out w6 ⟨HB6.out⟩)
  have HP6 := Lib.hid hP6
  clear hI5 hb5 hN6 hP6 BW hnW
  cases mm with
  | true =>
    obtain rfl : re = 0 := HRE2.out.trans (if_pos rfl)
    obtain rfl : rl = l := HRL2.out.trans (if_pos rfl)
    rw [HL.out]
    go_wp2_with fail
    refine HMY6.out.mono ?_
    rintro e w7 ⟨rfl, hN7⟩
    clear b0 b1 b2
    go_wp2_with fail
    refine (same5_len a6 len0 c6 a0 cap0 rl rl HL.out HL.out (by omega) w7.heap.size w7 (HP6.out.nw hN7) (HIP.out.nw ((⟨HB6.out⟩ : Nw w w6).trans hN7))).mono ?_
    rintro e w8 ⟨rfl, m8, rfl⟩
    rw [show decide (rl = rl) = true from decide_eq_true rfl]
    go_wp2_with fail
    refine (works_ok _).mono ?_
    rintro e w9 ⟨rfl, hN9⟩
    go_wp2_with fail
    go_ret
    exact ⟨rfl, ((((⟨HB6.out⟩ : Nw w w6).trans hN7).drewN m8).trans hN9).b⟩
  | false =>
    obtain rfl : re = 4 := HRE2.out.trans (if_neg (by decide))
    obtain rfl : rl = [] := HRL2.out.trans (if_neg (by decide))
    rw [show ([] : List Wr).length = 0 from rfl]
    go_wp2_with fail
    refine HMY6.out.mono ?_
    rintro e w7 ⟨rfl, hN7⟩
    clear b0 b1 b2
    go_wp2_with fail
    refine (works_ok _).mono ?_
    rintro e w9 ⟨rfl, hN9⟩
    go_wp2_with fail
    go_ret
    exact ⟨rfl, (((⟨HB6.out⟩ : Nw w w6).trans hN7).trans hN9).b⟩

end Go.Proofs.Ytnmgeembmmbhjaa
