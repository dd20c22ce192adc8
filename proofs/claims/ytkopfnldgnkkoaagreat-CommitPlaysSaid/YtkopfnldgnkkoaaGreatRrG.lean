/-
  THE DOCUMENT's RUNS: Begin.
-/
import Derived.StillTailTactics
import Derived.Test.YtkopfnldgnkkoaaGreatRrM
import Derived.Test.YtkopfnldgnkkoaaGreatRdW
import Derived.Test.YtkopfnldgnkkoaaGreatRdE
namespace Go.Proofs.YtkopfnldgnkkoaaGreat
open Go.RowKit Go.Shelf
set_option linter.unusedVariables false

set_option maxRecDepth 100000 in
set_option maxHeartbeats 8000000 in
theorem rbegin_yes (r d : Nat) (g : G) (k : Nat) (a : Option Addr) (hm : mayP g) (hk : (k : Int) < g.w) (la : Option Addr) (n lc n₀ : Nat) (l : List Wr) (hl : l.length = n) (hu : ∀ x ∈ l, (Lit.int .i64 x.1).wf = true ∧ u64 x.2) (hmay : mayW g l = true) (w : World) (hn₀ : n₀ ≤ w.heap.size) (hI : Pairs .i64 .u64 n₀ w la l) (h : RRunAt w r d g k [] a)
    (hla : l ≠ [] → ∀ p, la = some p → ¬ OwnR9 r a p.block) :
    Calls Tryz.prog 13 #[.pointer (some ⟨r, 0, none⟩), .slice la n lc] w (fun e w' => e = .returned (.int .i64 0) ∧ ∃ a', RRunM w r d g k a (beginL (264 + 208 * (k : Int)) l) a' w') := by
  obtain ⟨i0, hi, hz0, hz1, hz2⟩ := info_parts8 info_st
  obtain ⟨j0, hj9, hy0, hy1, hy2⟩ := info_parts8 info_int
  have hsm := may_small hmay
  have hng := may_neg hmay
  have hn96 : n ≤ 96 := by rw [← hl]; exact hsm.1
  have hxb : ∀ x ∈ l, 0 ≤ x.1 ∧ x.1 < 65536 := fun x hx => by
    obtain ⟨i, hi, e⟩ := atW_mem hx
    have := hsm.2 i hi
    rw [e] at this; exact this
  have hok : okW l := fun x hx => ⟨by have := hxb x hx; omega, (hu x hx).2⟩
  have hwl : wordsL l = recL l := if_neg (by rintro (h | h); omega; rw [hng] at h; cases h)
  have hwe : wordsE l = 0 := (if_neg (by omega)).trans (if_neg (by rw [hng]; decide))
  have hru := rec_u64 (by omega) hok hng
  have hrl : (recL l).length = 2 + 2 * n := by rw [recL_len, hl]
  have hk4 : (k : Int) ≤ 4 := by have := hm.2.1; omega
  obtain ⟨A, hA⟩ : ∃ A : Nat, (264 + 208 * (k : Int)) = (A : Int) := ⟨264 + 208 * k, by omega⟩
  have hAb : (A : Int) ≤ 5000 := by omega
  have HAR : Hid (∀ W, Calls Tryz.prog 52 #[.agg #[.int .i64 g.w, .int .i64 g.i, .int .i64 g.b], .int .i64 (k : Int)] W fun e w' => e = .returned (.int .i64 A) ∧ At W w') := fun W => by
    have := rarea_at g k (w0 := W) (w := W) At.refl
    rw [show placeV g 2 (k : Int) = 264 + 208 * (k : Int) from (if_pos ⟨hm, by omega, by simp only [manyN]; omega⟩ : placeV g 2 (k : Int) = atN g 2 + sizeN 2 * k).trans (by simp only [atN, sizeN]), hA] at this
    exact this
  obtain ⟨c, hb, _, _⟩ := h.k
  have HK := Lib.hid hb
  have HR := Lib.hid h
  have HMY := Lib.hid (rrmay_any g la lc n₀ l w hn₀ hI (by omega))
  have HWD := Lib.hid (fun (W : World) (u : Nw w W) => rwordsR_any la lc n₀ l hok W (Nat.le_trans hn₀ u.b.size) (hI.below (u.b.mono hn₀)) (by omega))
  rw [hl, hmay] at HMY
  rw [hl] at HWD
  have HWL := Lib.hid hwl
  have HWE := Lib.hid hwe
  have HRU := Lib.hid hru
  have HRL := Lib.hid hrl
  have c1 : w.cell? ⟨r, 1, none⟩ = some (.int .i64 g.w) := hb.cell rfl
  have c2 : w.cell? ⟨r, 2, none⟩ = some (.int .i64 g.i) := hb.cell rfl
  have c3 : w.cell? ⟨r, 3, none⟩ = some (.int .i64 g.b) := hb.cell rfl
  have c5 : w.cell? ⟨r, 5, none⟩ = some (.slice a 0 c) := hb.cell rfl
  unfold gV at HMY
  rw [hA]
  have HPI := Lib.hid hI
  have HLA := Lib.hid hla
  have HL0 := Lib.hid hl
  have HXB := Lib.hid hxb
  clear h hb hI hu hmay hsm hng hwl hwe hru hrl
  go_enter Tryz.func13, Tryz.ntmps13
  go_wp2_with fail
  (with_reducible refine HMY.out.mono ?_)
  rintro e w1 ⟨rfl, hn1⟩
  have HN1 := Lib.hid hn1
  have HW1 := Lib.hid (HWD.out w1 hn1)
  unfold WordsR at HW1
  rw [HWL.out, HWE.out, HRL.out] at HW1
  clear hn1 HWD HMY c1 c2 c3 c5
  go_wp2_with fail
  (with_reducible refine HW1.out.mono ?_)
  rintro e w2 ⟨a2, c2, rfl, hc2, hI2, hn2, hf2⟩
  have HN2 := Lib.hid (HN1.out.trans hn2)
  have HI2 := Lib.hid hI2
  have HF2 := Lib.hid (fun p hp => Nat.le_trans HN1.out.b.size (hf2 p hp))
  have HM2 := Lib.hid (RRunM.refl (HR.out.nw HN2.out))
  obtain ⟨ws, hws⟩ : ∃ ws, recL l = ws := ⟨_, rfl⟩
  have HWS := Lib.hid hws
  rw [hws] at HI2 HRU HRL
  obtain ⟨m, hm2⟩ : ∃ m, 2 + 2 * n = m := ⟨_, rfl⟩
  rw [hm2] at hc2 HRL ⊢
  have hm3 : m ≤ 194 := by omega
  clear hws hI2 hn2 hf2 HW1 hm2
  go_wp2_with fail
  go_loopw [8, 7] (fun i v wq => ∃ (j : Nat) (a1 : Option Addr), j ≤ m ∧ i = .int .i64 j ∧ RRunM w2 r d g k a (storeL 1 ((ownW (A : Int) ws).take j)) a1 wq ∧ wq.ownsRow w2.heap.size 3 1 v j ((((ownW (A : Int) ws).take j).map (·.1)).map (.int .i64))) (fun i _ _ => m - (intOf i).toNat)
  case atStart => exact ⟨0, a, Nat.zero_le _, rfl, HM2.out, ⟨rfl, .inl ⟨rfl, rfl⟩⟩⟩
  case round =>
    obtain ⟨j, a1, hj, rfl, hmm, hrow⟩ := hrel
    have HMM := Lib.hid hmm
    have HROW := Lib.hid hrow
    obtain ⟨ra, rc, rfl⟩ := own_slice hrow
    have hol : (ownW (A : Int) ws).length = m := by rw [ownW_len]; exact HRL.out
    have HST := Lib.hid (show j < m → storeL 1 ((ownW (A : Int) ws).take (j + 1)) = storeL 1 ((ownW (A : Int) ws).take j) ++ [⟨1, .store ((A : Int) + 8 + (j : Int)) (ws[j]?.getD 0)⟩] from fun hjm => by
      rw [storeL_take (by rw [hol]; exact hjm)]
      simp [ownW])
    have HTK := Lib.hid (show j < m → ((ownW (A : Int) ws).take (j + 1)).map (·.1) = ((ownW (A : Int) ws).take j).map (·.1) ++ [(A : Int) + 8 + (j : Int)] from fun hjm => by
      rw [List.take_succ_eq_append_getElem (by rw [hol]; exact hjm)]
      simp [ownW])
    have hlj : (storeL 1 ((ownW (A : Int) ws).take j)).length = j := by rw [storeL_len, List.length_take, hol]; omega
    obtain ⟨cc, hkb, hjc, hqs⟩ := hmm.rr.k
    rw [hlj] at hkb hjc
    have HKB := Lib.hid hkb
    have HQS := Lib.hid hqs
    have HLJ := Lib.hid hlj
    have HK9 : Hid (∀ W, Nw wr W → W.cell? ⟨r, 1, none⟩ = some (.int .i64 g.w) ∧ W.cell? ⟨r, 2, none⟩ = some (.int .i64 g.i) ∧ W.cell? ⟨r, 3, none⟩ = some (.int .i64 g.b) ∧ W.cell? ⟨r, 4, none⟩ = some (.int .i64 (k : Int))) :=
      fun W q => ⟨(HKB.out.nw q).cell rfl, (HKB.out.nw q).cell rfl, (HKB.out.nw q).cell rfl, (HKB.out.nw q).cell rfl⟩
    clear hmm hrow hkb hqs hlj hol
    by_cases hjm : j < m
    · have hji : (j : Int) < (m : Int) := by omega
      have hj0 : (0 : Int) ≤ (j : Int) := by omega
      obtain ⟨q1, hq1⟩ : ∃ q1 : Nat, q1 = A + 8 + j := ⟨_, rfl⟩
      have HH := Lib.hid (And.intro (show IntKind.i64.wrap ((A : Int) + 8) = (A : Int) + 8 from IntWalk.i64_in _ (by omega)) (show IntKind.i64.wrap ((A : Int) + 8 + (j : Int)) = (q1 : Int) by rw [show (A : Int) + 8 + (j : Int) = (q1 : Int) by omega]; exact IntWalk.i64_in _ (by omega)))
      have HQ1 := Lib.hid hq1
      obtain ⟨c1, c2', c3, c4⟩ := HK9.out wr Nw.refl
      clear hq1
      go_wp2_with fail
      obtain ⟨e1, e2⟩ := HH.out
      go_region_held3 (fun w' => w'.cell? ⟨r, 1, none⟩ = some (.int .i64 g.w) ∧ w'.cell? ⟨r, 2, none⟩ = some (.int .i64 g.i) ∧ w'.cell? ⟨r, 3, none⟩ = some (.int .i64 g.b) ∧ w'.cell? ⟨r, 4, none⟩ = some (.int .i64 (k : Int)))
        (first | (exact HK9.out _ Nw.refl.drew) | (exact HK9.out _ hk9))
        ((first
          | (go_at_call 52; (with_reducible refine (HAR.out _).mono ?_); rintro e w4 ⟨rfl, h4⟩; have hk9 := (Nw.refl (w := wr)).drew.trans h4.nw)))
      have HN4 := Lib.hid hk9
      have hc5 : w4.cell? ⟨r, 5, none⟩ = some (.slice a1 j cc) := (HKB.out.nw hk9).cell rfl
      have hf5 : w4.frozen? ⟨r, 5, none⟩ = false := (HKB.out.nw hk9).frozen 5
      clear c1 c2' c3 c4 h4 hk9 e1 e2 HK9
      obtain ⟨wb, wo, rfl, hwb, p0⟩ := HI2.out.at (j := j) (by rw [HRL.out]; exact hjm)
      have hnw : ¬ OwnR9 r a wb := fun hx => by
        have h1 := HR.out.own_lt hx
        have h2 := HF2.out _ rfl
        have h3 : w.heap.size ≤ wb := h2
        omega
      have p1 : w4.cell? ⟨wb, wo + j, none⟩ = some (.int .u64 (ws[j]'(by rw [HRL.out]; exact hjm))) := (HN4.out.b.cell (p := ⟨wb, wo + j, none⟩) (cell_lt (HMM.out.u.cell p0 hnw)).1).trans (HMM.out.u.cell p0 hnw)
      have HSTj := Lib.hid (HST.out hjm)
      have hv : ws[j]?.getD 0 = ws[j]'(by rw [HRL.out]; exact hjm) := by rw [List.getElem?_eq_getElem (by rw [HRL.out]; exact hjm)]; rfl
      rw [hv, show (A : Int) + 8 + (j : Int) = (q1 : Int) by have := HQ1.out; omega] at HSTj
      generalize ws[j]'(by rw [HRL.out]; exact hjm) = v at *
      have hTKj := HTK.out hjm
      rw [show (A : Int) + 8 + (j : Int) = (q1 : Int) by have := HQ1.out; omega] at hTKj
      have HTK := Lib.hid hTKj
      clear hv p0 hnw hTKj
      have HN5 := Lib.hid (show Nw wr (w4.drew.alloc (.cells #[.int .i64 1, .int .i64 0, .int .i64 (q1 : Int), .int .u64 v] 115)) from HN4.out.trans ((Nw.refl (w := w4)).drew.alloc _))
      have HRQ : Hid (¬ QB a1 r) := fun hx => (HMM.out.rr.qtag hx).ne HMM.out.rr.tag (by decide) rfl
      have HWR : Hid (wb ≠ r) := fun e => by
        have h2 := HR.out.tag.lt
        have h3 : w.heap.size ≤ wb := HF2.out _ rfl
        omega
      have HQA := Lib.hid (show Qs (w4.drew.alloc (.cells #[.int .i64 1, .int .i64 0, .int .i64 (q1 : Int), .int .u64 v] 115)) 115 4 a1 cc (stR (storeL 1 ((ownW (A : Int) ws).take j))) from HQS.out.nw (HN4.out.trans ((Nw.refl (w := w4)).drew.alloc _)))
      have HQN := Lib.hid (show (stR (storeL 1 ((ownW (A : Int) ws).take j))).length = j * 4 by rw [stR_len, HLJ.out])
      have HI4 := Lib.hid (show ∀ i u, [Value.int .i64 1, .int .i64 0, .int .i64 (q1 : Int), .int .u64 v][i]? = some u → (w4.drew.alloc (.cells #[.int .i64 1, .int .i64 0, .int .i64 (q1 : Int), .int .u64 v] 115)).cell? (Addr.add ⟨w4.heap.size, 0, none⟩ i) = some u from four_cells w4.drew _ _ _ _ _)
      have HWQ : Hid (¬ QB a1 wb) := fun hx => by
        rcases HMM.out.o wb (.inr hx) with h1 | h1
        · have h2 := HR.out.own_lt h1
          have h3 : w.heap.size ≤ wb := HF2.out _ rfl
          omega
        · omega
      have KA := Lib.hid (show (w4.drew.alloc (.cells #[.int .i64 1, .int .i64 0, .int .i64 (q1 : Int), .int .u64 v] 115)).cell? ⟨wb, wo + j, none⟩ = some (.int .u64 v) from ((Nw.refl (w := w4)).drew.alloc _).b.cell (p := ⟨wb, _, none⟩) (cell_lt p1).1 |>.trans p1)
      go_upto_region 11 with fail
      refine wp_region_noPanic ?_
      refine wp_region_held_drew (S := (fun w' => w'.cell? ⟨wb, wo + j, none⟩ = some (.int .u64 v))) (by kernel_rfl) ?_ (fun hHeld => ?_)
      · exact p1
      refine takeD (i := 0) (v := ?_) 46 rfl rfl ?_ ?_ ?_ (fun _ _ _ h => h) ?_ (by assumption) ?_
      rotate_left
      · kernel_rfl
      · kernel_rfl
      · kernel_rfl
      · refine Or.inl (And.intro ?_ ?_)
        · rfl
        · intro w hSw
          try dsimp only at hSw
          first | (go_simp; done) | (go_simp; with_reducible rfl)
      simp only [List.setIfInBounds_toArray, List.set_cons_zero, List.set_cons_succ]
      refine takeD (i := 1) (v := ?_) 47 rfl rfl ?_ ?_ ?_ (fun _ _ _ h => h) ?_ (by assumption) ?_
      rotate_left
      · kernel_rfl
      · kernel_rfl
      · kernel_rfl
      · refine Or.inl (And.intro ?_ ?_)
        · rfl
        · intro w hSw
          try dsimp only at hSw
          first | (go_simp; done) | (go_simp; with_reducible rfl)
      simp only [List.setIfInBounds_toArray, List.set_cons_zero, List.set_cons_succ]
      refine takeD (i := 2) (v := ?_) 48 rfl rfl ?_ ?_ ?_ (fun _ _ _ h => h) ?_ (by assumption) ?_
      rotate_left
      · kernel_rfl
      · kernel_rfl
      · kernel_rfl
      · refine Or.inl (And.intro ?_ ?_)
        · rfl
        · intro w hSw
          try dsimp only at hSw
          first | (go_simp; done) | (go_simp; with_reducible rfl)
      simp only [List.setIfInBounds_toArray, List.set_cons_zero, List.set_cons_succ]
      refine takeD (i := 3) (v := ?_) 49 rfl rfl ?_ ?_ ?_ (fun _ _ _ h => h) ?_ (by assumption) ?_
      rotate_left
      · kernel_rfl
      · kernel_rfl
      · kernel_rfl
      · refine Or.inl (And.intro ?_ ?_)
        · rfl
        · intro w hSw
          try dsimp only at hSw
          first | (go_simp; done) | (go_simp; with_reducible rfl)
      simp only [List.setIfInBounds_toArray, List.set_cons_zero, List.set_cons_succ]
      refine takeD (i := 5) (v := ?_) 51 rfl rfl ?_ ?_ ?_ (fun _ _ _ h => h) ?_ (by assumption) ?_
      rotate_left
      · kernel_rfl
      · kernel_rfl
      · kernel_rfl
      · refine Or.inl (And.intro ?_ ?_)
        · rfl
        · intro w hSw
          try dsimp only at hSw
          first | (go_simp; done) | (go_simp; with_reducible rfl)
      simp only [List.setIfInBounds_toArray, List.set_cons_zero, List.set_cons_succ]
      refine takeD (i := 6) (v := ?_) 52 rfl rfl ?_ ?_ ?_ (fun _ _ _ h => h) ?_ (by assumption) ?_
      rotate_left
      · kernel_rfl
      · kernel_rfl
      · kernel_rfl
      · refine Or.inl (And.intro ?_ ?_)
        · rfl
        · intro w hSw
          try dsimp only at hSw
          first | (go_simp; done) | (go_simp; with_reducible rfl)
      simp only [List.setIfInBounds_toArray, List.set_cons_zero, List.set_cons_succ]
      refine takeD (i := 7) (v := ?_) 53 rfl rfl ?_ ?_ ?_ (fun _ _ _ h => h) ?_ (by assumption) ?_
      rotate_left
      · kernel_rfl
      · kernel_rfl
      · kernel_rfl
      · refine Or.inl (And.intro ?_ ?_)
        · rfl
        · intro w hSw
          try dsimp only at hSw
          first | (go_simp; done) | (go_simp; with_reducible rfl)
      simp only [List.setIfInBounds_toArray, List.set_cons_zero, List.set_cons_succ]
      refine takeD (i := 8) (v := ?_) 54 rfl rfl ?_ ?_ ?_ (fun _ _ _ h => h) ?_ (by assumption) ?_
      rotate_left
      · kernel_rfl
      · kernel_rfl
      · kernel_rfl
      · refine Or.inl (And.intro ?_ ?_)
        · rfl
        · intro w hSw
          try dsimp only at hSw
          first | (go_simp; done) | (go_simp; with_reducible rfl)
      simp only [List.setIfInBounds_toArray, List.set_cons_zero, List.set_cons_succ]
      refine takeD (i := 9) (v := ?_) 55 rfl rfl ?_ ?_ ?_ (fun _ _ _ h => h) ?_ (by assumption) ?_
      rotate_left
      · kernel_rfl
      · kernel_rfl
      · kernel_rfl
      · refine Or.inl (And.intro ?_ ?_)
        · rfl
        · intro w hSw
          try dsimp only at hSw
          first | (go_simp; done) | (go_simp; with_reducible rfl)
      simp only [List.setIfInBounds_toArray, List.set_cons_zero, List.set_cons_succ]
      refine takeD (i := 10) (v := ?_) 56 rfl rfl ?_ ?_ ?_ (fun _ _ _ h => h) ?_ (by assumption) ?_
      rotate_left
      · kernel_rfl
      · kernel_rfl
      · kernel_rfl
      · refine Or.inl (And.intro ?_ ?_)
        · rfl
        · intro w hSw
          try dsimp only at hSw
          first | (go_simp; done) | (go_simp; with_reducible rfl)
      simp only [List.setIfInBounds_toArray, List.set_cons_zero, List.set_cons_succ]
      refine wpAnyH_ready (rs := [4, 11]) (by kernel_rfl) (by simp) ?_
      refine AllReadyH.cons rfl (fun K hK => ?_) (AllReadyH.cons rfl (fun K hK => ?_) AllReadyH.nil)
      · go_simp
        refine hK.out _ _ ?_ (fun hHeld2 => ?_)
        · exact hHeld
        clear hHeld2 hK K
        refine wpAnyH_ready (rs := [11]) (by kernel_rfl) (by simp) ?_
        refine AllReadyH.cons rfl (fun K hK => ?_) AllReadyH.nil
        go_simp
        refine hK.out _ _ ?_ (fun hHeld2 => ?_)
        · exact KA.out
        clear hHeld2 hK K
        refine wpAnyH_ready (rs := [12]) (by kernel_rfl) (by simp) ?_
        refine AllReadyH.cons rfl (fun K hK => ?_) AllReadyH.nil
        refine ready_if rfl ?_
        refine wp_append_qsm _ rfl (.tmp 50) (.tmp 57) 56 rfl 115 i0 (.agg #[.int .i64 0, .int .i64 0, .int .i64 0, .int .u64 0]) 4 32 Tryz.underlying56 hi hz0 hz1 hz2 rfl (by decide) a1 j cc (stR (storeL 1 ((ownW (A : Int) ws).take j))) rfl HQN.out HQA.out 1 (by decide) (by unfold maxLen; omega) (by omega) ⟨w4.heap.size, 0, none⟩ 1 [.int .i64 1, .int .i64 0, .int .i64 (q1 : Int), .int .u64 v] rfl rfl HI4.out (by intro u hu; simp at hu; rcases hu with rfl | rfl | rfl | rfl <;> rfl) ?_
        intro a3 c3 w6 hq6 hu6 hn6
        go_simp
        refine hK.out _ _ ?_ (fun hHeld2 => ?_)
        · exact hu6.cell KA.out HWQ.out
        have hHeld := hHeld2
        clear hHeld2 hK K
        have hkb6 := hu6.blk (HKB.out.nw HN5.out) HRQ.out
        have hc56 : w6.cell? ⟨r, 5, none⟩ = some (.slice a1 j cc) := hkb6.cell rfl
        have hf56 : w6.frozen? ⟨r, 5, none⟩ = false := hkb6.frozen 5
        refine takeD (i := 13) (v := ?_) 59 rfl rfl ?_ ?_ ?_ (fun _ _ _ h => h) ?_ (by assumption) ?_
        rotate_left
        · kernel_rfl
        · kernel_rfl
        · kernel_rfl
        · refine Or.inl (And.intro ?_ ?_)
          · rfl
          · intro w hSw
            try dsimp only at hSw
            first | (go_simp; done) | (go_simp; with_reducible rfl)
        simp only [List.setIfInBounds_toArray, List.set_cons_zero, List.set_cons_succ]
        refine takeD (i := 14) (v := ?_) 60 rfl rfl ?_ ?_ ?_ (fun _ _ _ h => h) ?_ (by assumption) ?_
        rotate_left
        · kernel_rfl
        · kernel_rfl
        · kernel_rfl
        · refine Or.inl (And.intro ?_ ?_)
          · rfl
          · intro w hSw
            try dsimp only at hSw
            first | (go_simp; done) | (go_simp; with_reducible rfl)
        simp only [List.setIfInBounds_toArray, List.set_cons_zero, List.set_cons_succ]
        refine wpAnyH_ready (rs := [15]) (by kernel_rfl) (by simp) ?_
        refine AllReadyH.cons rfl (fun K hK => ?_) AllReadyH.nil
        go_simp
        refine hK.out _ _ ?_ (fun hHeld2 => ?_)
        · rw [cell_far _ _ _ _ _ HWR.out]; exact hHeld
        clear hHeld2 hK K hHeld
        refine wpAnyH_done (by kernel_rfl) ?_ _
        refine NoPanic.normal ?_
        have hc3 : j + 1 ≤ c3 := by
          have := hq6.len
          rw [List.length_append, HQN.out] at this
          simp at this
          omega
        have hpush := (HMM.out.nw HN5.out).push (M := [⟨1, .store (q1 : Int) v⟩]) (a3 := a3) (c3 := c3) (w3 := w6) (by rw [HLJ.out]; exact hc3) hq6 hu6 hn6
        rw [HLJ.out, ← HSTj.out] at hpush
        have hrw := own_upo (own_upo (own_below HN5.out.b HROW.out) hu6 (fun x hx hq => ((HMM.out.rr.nw HN5.out).qtag hq).ne hx (by decide) rfl)) (UpO.of_up (O := fun x => x = r) ((Up.refl r w6).set 5 (.slice a3 (j + 1) c3)) rfl) (fun x hx e => hx.ne (hkb6.tag) (by decide) e)
        have hs7 : w2.heap.size ≤ (w6.setCell ⟨r, 5, none⟩ (.slice a3 (j + 1) c3)).heap.size := hpush.u.size
        have HM7 := Lib.hid hpush
        have HRW := Lib.hid hrw
        clear hpush hrw hc56 hf56 hkb6 hq6 hu6 hn6 hc5 hf5
        generalize w6.setCell ⟨r, 5, none⟩ (.slice a3 (j + 1) c3) = w7 at *
        go_wp2_with (at_builtin; go_loud (refine wpList_append_ints _ rfl (.tmp 61) (.tmp 63) 76 rfl w2.heap.size 3 j0 (.int .i64 0) 8 Tryz.underlying76 hj9 hy0 hy1 hy2 rfl _ _ _ rfl (HRW.out.alloc _) _ 1 1 .i64 [(q1 : Int)] _ rfl rfl (Ints.one _ _ _ _) (by unfold maxLen; omega) (by omega) (by simp; omega) ?_); intro v8 w8 hown8 hgrow8; have HM8 := Lib.hid ((HM7.out.nw ((Nw.refl (w := w7)).alloc _)).row hgrow8 (HRW.out.alloc _)); clear hgrow8; rw [← List.map_append] at hown8)
        go_roundw
        case rel => exact ⟨j + 1, a3, by omega, by go_num, HM8.out, by rw [HTK.out]; exact hown8⟩
        case measure => simp [intOf]; omega
      · have hc5a : (w4.alloc (.cells #[.int .i64 1, .int .i64 0, .int .i64 (q1 : Int), .int .u64 v] 115)).drew.cell? ⟨r, 5, none⟩ = some (.slice a1 j cc) := (HKB.out.nw HN5.out).cell rfl
        go_simp
        refine hK.out _ _ ?_ (fun hHeld2 => ?_)
        · exact KA.out
        clear hHeld2 hK K
        refine wpAnyH_ready (rs := [4]) (by kernel_rfl) (by simp) ?_
        refine AllReadyH.cons rfl (fun K hK => ?_) AllReadyH.nil
        go_simp
        refine hK.out _ _ ?_ (fun hHeld2 => ?_)
        · exact KA.out
        clear hHeld2 hK K hc5a
        refine wpAnyH_ready (rs := [12]) (by kernel_rfl) (by simp) ?_
        refine AllReadyH.cons rfl (fun K hK => ?_) AllReadyH.nil
        refine ready_if rfl ?_
        refine wp_append_qsm _ rfl (.tmp 50) (.tmp 57) 56 rfl 115 i0 (.agg #[.int .i64 0, .int .i64 0, .int .i64 0, .int .u64 0]) 4 32 Tryz.underlying56 hi hz0 hz1 hz2 rfl (by decide) a1 j cc (stR (storeL 1 ((ownW (A : Int) ws).take j))) rfl HQN.out HQA.out 1 (by decide) (by unfold maxLen; omega) (by omega) ⟨w4.heap.size, 0, none⟩ 1 [.int .i64 1, .int .i64 0, .int .i64 (q1 : Int), .int .u64 v] rfl rfl HI4.out (by intro u hu; simp at hu; rcases hu with rfl | rfl | rfl | rfl <;> rfl) ?_
        intro a3 c3 w6 hq6 hu6 hn6
        go_simp
        refine hK.out _ _ ?_ (fun hHeld2 => ?_)
        · exact hu6.cell KA.out HWQ.out
        have hHeld := hHeld2
        clear hHeld2 hK K
        have hkb6 := hu6.blk (HKB.out.nw HN5.out) HRQ.out
        have hc56 : w6.cell? ⟨r, 5, none⟩ = some (.slice a1 j cc) := hkb6.cell rfl
        have hf56 : w6.frozen? ⟨r, 5, none⟩ = false := hkb6.frozen 5
        refine takeD (i := 13) (v := ?_) 59 rfl rfl ?_ ?_ ?_ (fun _ _ _ h => h) ?_ (by assumption) ?_
        rotate_left
        · kernel_rfl
        · kernel_rfl
        · kernel_rfl
        · refine Or.inl (And.intro ?_ ?_)
          · rfl
          · intro w hSw
            try dsimp only at hSw
            first | (go_simp; done) | (go_simp; with_reducible rfl)
        simp only [List.setIfInBounds_toArray, List.set_cons_zero, List.set_cons_succ]
        refine takeD (i := 14) (v := ?_) 60 rfl rfl ?_ ?_ ?_ (fun _ _ _ h => h) ?_ (by assumption) ?_
        rotate_left
        · kernel_rfl
        · kernel_rfl
        · kernel_rfl
        · refine Or.inl (And.intro ?_ ?_)
          · rfl
          · intro w hSw
            try dsimp only at hSw
            first | (go_simp; done) | (go_simp; with_reducible rfl)
        simp only [List.setIfInBounds_toArray, List.set_cons_zero, List.set_cons_succ]
        refine wpAnyH_ready (rs := [15]) (by kernel_rfl) (by simp) ?_
        refine AllReadyH.cons rfl (fun K hK => ?_) AllReadyH.nil
        go_simp
        refine hK.out _ _ ?_ (fun hHeld2 => ?_)
        · rw [cell_far _ _ _ _ _ HWR.out]; exact hHeld
        clear hHeld2 hK K hHeld
        refine wpAnyH_done (by kernel_rfl) ?_ _
        refine NoPanic.normal ?_
        have hc3 : j + 1 ≤ c3 := by
          have := hq6.len
          rw [List.length_append, HQN.out] at this
          simp at this
          omega
        have hpush := (HMM.out.nw HN5.out).push (M := [⟨1, .store (q1 : Int) v⟩]) (a3 := a3) (c3 := c3) (w3 := w6) (by rw [HLJ.out]; exact hc3) hq6 hu6 hn6
        rw [HLJ.out, ← HSTj.out] at hpush
        have hrw := own_upo (own_upo (own_below HN5.out.b HROW.out) hu6 (fun x hx hq => ((HMM.out.rr.nw HN5.out).qtag hq).ne hx (by decide) rfl)) (UpO.of_up (O := fun x => x = r) ((Up.refl r w6).set 5 (.slice a3 (j + 1) c3)) rfl) (fun x hx e => hx.ne (hkb6.tag) (by decide) e)
        have hs7 : w2.heap.size ≤ (w6.setCell ⟨r, 5, none⟩ (.slice a3 (j + 1) c3)).heap.size := hpush.u.size
        have HM7 := Lib.hid hpush
        have HRW := Lib.hid hrw
        clear hpush hrw hc56 hf56 hkb6 hq6 hu6 hn6 hc5 hf5
        generalize w6.setCell ⟨r, 5, none⟩ (.slice a3 (j + 1) c3) = w7 at *
        go_wp2_with (at_builtin; go_loud (refine wpList_append_ints _ rfl (.tmp 61) (.tmp 63) 76 rfl w2.heap.size 3 j0 (.int .i64 0) 8 Tryz.underlying76 hj9 hy0 hy1 hy2 rfl _ _ _ rfl (HRW.out.alloc _) _ 1 1 .i64 [(q1 : Int)] _ rfl rfl (Ints.one _ _ _ _) (by unfold maxLen; omega) (by omega) (by simp; omega) ?_); intro v8 w8 hown8 hgrow8; have HM8 := Lib.hid ((HM7.out.nw ((Nw.refl (w := w7)).alloc _)).row hgrow8 (HRW.out.alloc _)); clear hgrow8; rw [← List.map_append] at hown8)
        go_roundw
        case rel => exact ⟨j + 1, a3, by omega, by go_num, HM8.out, by rw [HTK.out]; exact hown8⟩
        case measure => simp [intOf]; omega
    · obtain rfl : j = m := by omega
      have hol : (ownW (A : Int) ws).length = j := by rw [ownW_len]; exact HRL.out
      have hzz : ∀ z ∈ (ownW (A : Int) ws).map (·.1), 0 ≤ z ∧ z < 65536 := fun z hz => by
        obtain ⟨x, hx, rfl⟩ := List.mem_map.1 hz
        simp only [ownW, List.mem_map, List.mem_range] at hx
        obtain ⟨i, hi', rfl⟩ := hx
        rw [HRL.out] at hi'
        dsimp only
        omega
      have HIW2 := Lib.hid (show ∀ (a' : Option Addr) (L' : List St) (X : World), RRunM w2 r d g k a L' a' X → ∀ W, Nw X W → Ints W.heap.size .u64 W a2 ws from fun a' L' X hX W u => by
        refine Ints.nw (n := 0) u (Ints.mono hX.u.size (hX.u.ints HI2.out (fun _ p hp hx => ?_)))
        have h1 := HR.out.own_lt hx
        have h2 := HF2.out _ hp
        omega)
      have HPX := Lib.hid (show ∀ (a' : Option Addr) (L' : List St) (X : World), RRunM w2 r d g k a L' a' X → ∀ W, Nw X W → Pairs .i64 .u64 n₀ W la l from fun a' L' X hX W u => by
        by_cases h0 : l = []
        · exact .inl h0
        · exact pairs_upo (pairs_upo (pairs_upo HPI.out (O := fun _ => False) (.of_nw HN2.out) (fun _ _ h => h)) hX.u (HLA.out h0)) (O := fun _ => False) (.of_nw u) (fun _ _ h => h))
      have HNX := Lib.hid (show ∀ (a' : Option Addr) (L' : List St) (X : World), RRunM w2 r d g k a L' a' X → n₀ ≤ X.heap.size from fun a' L' X hX => Nat.le_trans hn₀ (Nat.le_trans HN2.out.b.size hX.u.size))
      have HBL : Hid (beginL (A : Int) l = storeL 1 (ownW (A : Int) ws) ++ settleL 2 (ownW (A : Int) ws) ++ markL 3 (A : Int) (markV ws) ++ applyL (A : Int) l) := by show _ = _; rw [beginL, bothL, HWS.out]
      rw [List.take_of_length_le (by rw [hol]; exact Nat.le_refl _)] at HMM HROW HQS HLJ
      obtain ⟨ia, ic, he, hil, hII⟩ := Ints.of_owns HROW.out
      simp only [Value.slice.injEq, true_and] at he
      obtain ⟨rfl, rfl⟩ := he
      have HFL := Lib.hid (fun (W : World) (u : Nw wr W) => flushes_any 2 ra j rc W.heap.size ((ownW (A : Int) ws).map (·.1)) hil (by omega) hzz W (Nat.le_refl _) (Ints.nw (n := 0) u hII))
      rw [settleZ_w] at HFL
      clear HKB HQS HK9 HST HTK hjc hII hil hzz hol HROW HI2
      obtain ⟨S1, hS1⟩ : ∃ S1, storeL 1 (ownW (A : Int) ws) = S1 := ⟨_, rfl⟩
      rw [hS1] at HBL HMM HLJ
      clear hS1
      have hF1 : (settleL 2 (ownW (A : Int) ws)).length ≤ 8193 := settleL_len 2 _
      have hF0 : 0 < (settleL 2 (ownW (A : Int) ws)).length := by unfold settleL; simp
      obtain ⟨F, hF⟩ : ∃ F, settleL 2 (ownW (A : Int) ws) = F := ⟨_, rfl⟩
      rw [hF] at HBL HFL hF1 hF0
      clear hF
      have hlF := stR_len F
      obtain ⟨nF, hnF⟩ : ∃ nF, F.length = nF := ⟨_, rfl⟩
      have HFN := Lib.hid hnF
      rw [hnF] at hF1 hlF
      have hF2 : 0 < nF := by omega
      unfold OwnS at HFL
      clear hnF
      obtain ⟨cc, hkb, hjc, hqs⟩ := HMM.out.rr.k
      rw [HLJ.out] at hkb hjc
      have HKB := Lib.hid hkb
      have HQS := Lib.hid hqs
      have HLN := Lib.hid (show (stR S1).length = j * 4 by rw [stR_len, HLJ.out])
      have HRQ : Hid (¬ QB a1 r) := fun hx => (HMM.out.rr.qtag hx).ne HMM.out.rr.tag (by decide) rfl
      clear hkb hqs
      go_upto_region 13 with fail
      go_cut [] (fun wx => ∃ a', RRunM w2 r d g k a (S1 ++ F) a' wx)
      case first =>
        refine wp_region_noPanic ?_
        refine wp_region_held_drew (S := (fun _ => True)) (by kernel_rfl) ?_ (fun hHeld => ?_)
        · trivial
        refine takeD (i := 0) (v := ?_) 65 rfl rfl ?_ ?_ ?_ (fun _ _ _ h => h) ?_ (by assumption) ?_
        rotate_left
        · kernel_rfl
        · kernel_rfl
        · kernel_rfl
        · refine Or.inl (And.intro ?_ ?_)
          · rfl
          · intro w hSw
            try dsimp only at hSw
            first | (go_simp; done) | (go_simp; with_reducible rfl)
        simp only [List.setIfInBounds_toArray, List.set_cons_zero, List.set_cons_succ]
        refine takeD (i := 1) (v := ?_) 66 rfl rfl ?_ ?_ ?_ (fun _ _ _ h => h) ?_ (by assumption) ?_
        rotate_left
        · kernel_rfl
        · kernel_rfl
        · kernel_rfl
        · refine Or.inl (And.intro ?_ ?_)
          · rfl
          · intro w hSw
            try dsimp only at hSw
            first | (go_simp; done) | (go_simp; with_reducible rfl)
        simp only [List.setIfInBounds_toArray, List.set_cons_zero, List.set_cons_succ]
        refine takeD (i := 2) (v := ?_) 67 rfl rfl ?_ ?_ ?_ (fun _ _ _ h => h) ?_ (by assumption) ?_
        rotate_left
        · kernel_rfl
        · kernel_rfl
        · kernel_rfl
        · refine Or.inl (And.intro ?_ ?_)
          · rfl
          · intro w hSw
            try dsimp only at hSw
            first | (go_simp; done) | (go_simp; with_reducible rfl)
        simp only [List.setIfInBounds_toArray, List.set_cons_zero, List.set_cons_succ]
        refine takeD (i := 3) (v := ?_) 68 rfl rfl ?_ ?_ ?_ (fun _ _ _ h => h) ?_ (by assumption) ?_
        rotate_left
        · kernel_rfl
        · kernel_rfl
        · kernel_rfl
        · refine Or.inl (And.intro ?_ ?_)
          · rfl
          · intro w hSw
            try dsimp only at hSw
            first | (go_simp; done) | (go_simp; with_reducible rfl)
        simp only [List.setIfInBounds_toArray, List.set_cons_zero, List.set_cons_succ]
        refine takeD (i := 5) (v := ?_) 70 rfl rfl ?_ ?_ ?_ (fun _ _ _ h => h) ?_ (by assumption) ?_
        rotate_left
        · kernel_rfl
        · kernel_rfl
        · kernel_rfl
        · refine Or.inl (And.intro ?_ ?_)
          · rfl
          · intro w hSw
            try dsimp only at hSw
            first | (go_simp; done) | (go_simp; with_reducible rfl)
        simp only [List.setIfInBounds_toArray, List.set_cons_zero, List.set_cons_succ]
        refine wpAnyH_ready (rs := [4, 6]) (by kernel_rfl) (by simp) ?_
        refine AllReadyH.cons rfl (fun K hK => ?_) (AllReadyH.cons rfl (fun K hK => ?_) AllReadyH.nil)
        · have hc5 : wr.cell? ⟨r, 5, none⟩ = some (.slice a1 j cc) := HKB.out.cell rfl
          go_simp
          refine hK.out _ _ trivial (fun _ => ?_)
          clear hK K
          clear hc5
          refine wpAnyH_ready (rs := [6]) (by kernel_rfl) (by simp) ?_
          refine AllReadyH.cons rfl (fun K hK => ?_) AllReadyH.nil
          go_simp
          go_wp2_with (go_at_call 62; (with_reducible refine (HFL.out _ Nw.refl.drew).mono ?_); rintro e w4 ⟨fv, rfl, hfo, hn4⟩; obtain ⟨fb, fc, rfl, hfc, hfb, hfl, hfcell⟩ := own_st hfo hF0; have HN4 := Lib.hid (Nw.refl.drew.trans hn4); rw [HFN.out]; clear hfo hfb hfl hfc hn4)
          refine hK.out _ _ trivial (fun _ => ?_)
          clear hK K
          refine wpAnyH_ready (rs := [7]) (by kernel_rfl) (by simp) ?_
          refine AllReadyH.cons rfl (fun K hK => ?_) AllReadyH.nil
          refine ready_if rfl ?_
          refine wp_append_qsm _ rfl (.tmp 69) (.tmp 71) 56 rfl 115 i0 (.agg #[.int .i64 0, .int .i64 0, .int .i64 0, .int .u64 0]) 4 32 Tryz.underlying56 hi hz0 hz1 hz2 rfl (by decide) a1 j cc (stR S1) rfl HLN.out (HQS.out.nw HN4.out) nF hF2 (by unfold maxLen; omega) (by omega) ⟨fb, 0, none⟩ fc (stR F) rfl hlF hfcell (stR_one F) ?_
          intro a3 c3 w6 hq6 hu6 hn6
          go_simp
          refine hK.out _ _ trivial (fun _ => ?_)
          clear hK K
          have hkb6 := hu6.blk (HKB.out.nw HN4.out) HRQ.out
          have hc56 : w6.cell? ⟨r, 5, none⟩ = some (.slice a1 j cc) := hkb6.cell rfl
          have hf56 : w6.frozen? ⟨r, 5, none⟩ = false := hkb6.frozen 5
          have hT : (fun _ : World => True) w6 := trivial
          refine takeD (i := 8) (v := ?_) 73 rfl rfl ?_ ?_ ?_ (fun _ _ _ h => h) ?_ (by assumption) ?_
          rotate_left
          · kernel_rfl
          · kernel_rfl
          · kernel_rfl
          · refine Or.inl (And.intro ?_ ?_)
            · rfl
            · intro w hSw
              try dsimp only at hSw
              first | (go_simp; done) | (go_simp; with_reducible rfl)
          simp only [List.setIfInBounds_toArray, List.set_cons_zero, List.set_cons_succ]
          refine takeD (i := 9) (v := ?_) 74 rfl rfl ?_ ?_ ?_ (fun _ _ _ h => h) ?_ (by assumption) ?_
          rotate_left
          · kernel_rfl
          · kernel_rfl
          · kernel_rfl
          · refine Or.inl (And.intro ?_ ?_)
            · rfl
            · intro w hSw
              try dsimp only at hSw
              first | (go_simp; done) | (go_simp; with_reducible rfl)
          simp only [List.setIfInBounds_toArray, List.set_cons_zero, List.set_cons_succ]
          refine wpAnyH_ready (rs := [10]) (by kernel_rfl) (by simp) ?_
          refine AllReadyH.cons rfl (fun K hK => ?_) AllReadyH.nil
          go_simp
          refine hK.out _ _ trivial (fun _ => ?_)
          clear hK K
          refine wpAnyH_done (by kernel_rfl) ?_ _
          refine NoPanic.normal ?_
          have hc3 : j + nF ≤ c3 := by
            have := hq6.len
            rw [List.length_append, HLN.out, hlF] at this
            omega
          have hpush := (HMM.out.nw HN4.out).push (M := F) (a3 := a3) (c3 := c3) (w3 := w6) (by rw [HLJ.out, HFN.out]; exact hc3) hq6 hu6 hn6
          rw [HLJ.out, HFN.out] at hpush
          go_wp2_with fail
          go_meet
          exact ⟨a3, hpush⟩

        · go_simp
          go_wp2_with (go_at_call 62; (with_reducible refine (HFL.out _ Nw.refl.drew).mono ?_); rintro e w4 ⟨fv, rfl, hfo, hn4⟩; obtain ⟨fb, fc, rfl, hfc, hfb, hfl, hfcell⟩ := own_st hfo hF0; have HN4 := Lib.hid (Nw.refl.drew.trans hn4); rw [HFN.out]; clear hfo hfb hfl hfc hn4)
          refine hK.out _ _ trivial (fun _ => ?_)
          clear hK K
          have hc5 : w4.cell? ⟨r, 5, none⟩ = some (.slice a1 j cc) := (HKB.out.nw HN4.out).cell rfl
          refine wpAnyH_ready (rs := [4]) (by kernel_rfl) (by simp) ?_
          refine AllReadyH.cons rfl (fun K hK => ?_) AllReadyH.nil
          go_simp
          refine hK.out _ _ trivial (fun _ => ?_)
          clear hK K
          clear hc5
          refine wpAnyH_ready (rs := [7]) (by kernel_rfl) (by simp) ?_
          refine AllReadyH.cons rfl (fun K hK => ?_) AllReadyH.nil
          refine ready_if rfl ?_
          refine wp_append_qsm _ rfl (.tmp 69) (.tmp 71) 56 rfl 115 i0 (.agg #[.int .i64 0, .int .i64 0, .int .i64 0, .int .u64 0]) 4 32 Tryz.underlying56 hi hz0 hz1 hz2 rfl (by decide) a1 j cc (stR S1) rfl HLN.out (HQS.out.nw HN4.out) nF hF2 (by unfold maxLen; omega) (by omega) ⟨fb, 0, none⟩ fc (stR F) rfl hlF hfcell (stR_one F) ?_
          intro a3 c3 w6 hq6 hu6 hn6
          go_simp
          refine hK.out _ _ trivial (fun _ => ?_)
          clear hK K
          have hkb6 := hu6.blk (HKB.out.nw HN4.out) HRQ.out
          have hc56 : w6.cell? ⟨r, 5, none⟩ = some (.slice a1 j cc) := hkb6.cell rfl
          have hf56 : w6.frozen? ⟨r, 5, none⟩ = false := hkb6.frozen 5
          have hT : (fun _ : World => True) w6 := trivial
          refine takeD (i := 8) (v := ?_) 73 rfl rfl ?_ ?_ ?_ (fun _ _ _ h => h) ?_ (by assumption) ?_
          rotate_left
          · kernel_rfl
          · kernel_rfl
          · kernel_rfl
          · refine Or.inl (And.intro ?_ ?_)
            · rfl
            · intro w hSw
              try dsimp only at hSw
              first | (go_simp; done) | (go_simp; with_reducible rfl)
          simp only [List.setIfInBounds_toArray, List.set_cons_zero, List.set_cons_succ]
          refine takeD (i := 9) (v := ?_) 74 rfl rfl ?_ ?_ ?_ (fun _ _ _ h => h) ?_ (by assumption) ?_
          rotate_left
          · kernel_rfl
          · kernel_rfl
          · kernel_rfl
          · refine Or.inl (And.intro ?_ ?_)
            · rfl
            · intro w hSw
              try dsimp only at hSw
              first | (go_simp; done) | (go_simp; with_reducible rfl)
          simp only [List.setIfInBounds_toArray, List.set_cons_zero, List.set_cons_succ]
          refine wpAnyH_ready (rs := [10]) (by kernel_rfl) (by simp) ?_
          refine AllReadyH.cons rfl (fun K hK => ?_) AllReadyH.nil
          go_simp
          refine hK.out _ _ trivial (fun _ => ?_)
          clear hK K
          refine wpAnyH_done (by kernel_rfl) ?_ _
          refine NoPanic.normal ?_
          have hc3 : j + nF ≤ c3 := by
            have := hq6.len
            rw [List.length_append, HLN.out, hlF] at this
            omega
          have hpush := (HMM.out.nw HN4.out).push (M := F) (a3 := a3) (c3 := c3) (w3 := w6) (by rw [HLJ.out, HFN.out]; exact hc3) hq6 hu6 hn6
          rw [HLJ.out, HFN.out] at hpush
          go_wp2_with fail
          go_meet
          exact ⟨a3, hpush⟩


      case rest =>
        obtain ⟨a1, hm4⟩ := hcut
        clear HMM HKB HQS HLN HRQ HFL hlF
        generalize wc = x4 at *
        have HMM := Lib.hid hm4
        obtain ⟨S2, hS2⟩ : ∃ S2, S1 ++ F = S2 := ⟨_, rfl⟩
        have hj2 : S2.length = j + nF := by rw [← hS2, List.length_append, HLJ.out, HFN.out]
        rw [hS2] at HMM HBL
        clear hS2 hm4 HLJ HFN hF0 hF2
        obtain ⟨j2, hjj⟩ : ∃ j2, j + nF = j2 := ⟨_, rfl⟩
        rw [hjj] at hj2
        have hj3 : j2 ≤ 8400 := by omega
        clear hjj hF1
        have HLJ := Lib.hid hj2
        clear hj2
        have HMK := Lib.hid (show ∀ W, Nw x4 W → Calls Tryz.prog 64 #[.slice a2 j c2] W (Quietly (.int .u64 (markV ws)) W) from fun W u => by
          have := rmark_any a2 c2 W.heap.size ws (by rw [HRL.out]; exact hc2) HRU.out (by rw [HRL.out]; omega) W (HIW2.out _ _ _ HMM.out W u)
          rw [HRL.out] at this
          exact this)
        have HMC := Lib.hid (show ∀ W, Nw x4 W → Calls Tryz.prog 63 #[.pointer (some ⟨r, 0, none⟩), .int .i64 3, .int .u64 (markV ws)] W (OwnS W (markL 3 (A : Int) (markV ws))) from fun W u => by
          have := rrmark_any r d g k S2 a1 hm hk 3 (markV ws) W (HMM.out.rr.nw u)
          rw [hA] at this
          exact this)
        unfold OwnS at HMC
        have hF1 : (markL 3 (A : Int) (markV ws)).length ≤ 8194 := markL_len 3 _ _
        have hF0 : 0 < (markL 3 (A : Int) (markV ws)).length := by unfold markL bothL; simp [storeL]
        generalize markL 3 (A : Int) (markV ws) = M at *
        have hlF := stR_len M
        obtain ⟨nM, hnM⟩ : ∃ nM, M.length = nM := ⟨_, rfl⟩
        have HFN := Lib.hid hnM
        rw [hnM] at hF1 hlF
        have hF2 : 0 < nM := by omega
        clear hnM
        obtain ⟨cc, hkb, hjc, hqs⟩ := HMM.out.rr.k
        rw [HLJ.out] at hkb hjc
        have HKB := Lib.hid hkb
        have HQS := Lib.hid hqs
        have HLN := Lib.hid (show (stR S2).length = j2 * 4 by rw [stR_len, HLJ.out])
        have HRQ : Hid (¬ QB a1 r) := fun hx => (HMM.out.rr.qtag hx).ne HMM.out.rr.tag (by decide) rfl
        clear hkb hqs

        go_upto_region 14 with fail
        go_cut [] (fun wx => ∃ a', RRunM w2 r d g k a (S2 ++ M) a' wx)
        case first =>
          refine wp_region_noPanic ?_
          refine wp_region_held_drew (S := (fun _ => True)) (by kernel_rfl) ?_ (fun hHeld => ?_)
          · trivial
          refine takeD (i := 0) (v := ?_) 75 rfl rfl ?_ ?_ ?_ (fun _ _ _ h => h) ?_ (by assumption) ?_
          rotate_left
          · kernel_rfl
          · kernel_rfl
          · kernel_rfl
          · refine Or.inl (And.intro ?_ ?_)
            · rfl
            · intro w hSw
              try dsimp only at hSw
              first | (go_simp; done) | (go_simp; with_reducible rfl)
          simp only [List.setIfInBounds_toArray, List.set_cons_zero, List.set_cons_succ]
          refine takeD (i := 1) (v := ?_) 76 rfl rfl ?_ ?_ ?_ (fun _ _ _ h => h) ?_ (by assumption) ?_
          rotate_left
          · kernel_rfl
          · kernel_rfl
          · kernel_rfl
          · refine Or.inl (And.intro ?_ ?_)
            · rfl
            · intro w hSw
              try dsimp only at hSw
              first | (go_simp; done) | (go_simp; with_reducible rfl)
          simp only [List.setIfInBounds_toArray, List.set_cons_zero, List.set_cons_succ]
          refine takeD (i := 2) (v := ?_) 77 rfl rfl ?_ ?_ ?_ (fun _ _ _ h => h) ?_ (by assumption) ?_
          rotate_left
          · kernel_rfl
          · kernel_rfl
          · kernel_rfl
          · refine Or.inl (And.intro ?_ ?_)
            · rfl
            · intro w hSw
              try dsimp only at hSw
              first | (go_simp; done) | (go_simp; with_reducible rfl)
          simp only [List.setIfInBounds_toArray, List.set_cons_zero, List.set_cons_succ]
          refine takeD (i := 3) (v := ?_) 78 rfl rfl ?_ ?_ ?_ (fun _ _ _ h => h) ?_ (by assumption) ?_
          rotate_left
          · kernel_rfl
          · kernel_rfl
          · kernel_rfl
          · refine Or.inl (And.intro ?_ ?_)
            · rfl
            · intro w hSw
              try dsimp only at hSw
              first | (go_simp; done) | (go_simp; with_reducible rfl)
          simp only [List.setIfInBounds_toArray, List.set_cons_zero, List.set_cons_succ]
          refine takeD (i := 5) (v := ?_) 80 rfl rfl ?_ ?_ ?_ (fun _ _ _ h => h) ?_ (by assumption) ?_
          rotate_left
          · kernel_rfl
          · kernel_rfl
          · kernel_rfl
          · refine Or.inl (And.intro ?_ ?_)
            · rfl
            · intro w hSw
              try dsimp only at hSw
              first | (go_simp; done) | (go_simp; with_reducible rfl)
          simp only [List.setIfInBounds_toArray, List.set_cons_zero, List.set_cons_succ]
          refine takeD (i := 6) (v := ?_) 81 rfl rfl ?_ ?_ ?_ (fun _ _ _ h => h) ?_ (by assumption) ?_
          rotate_left
          · kernel_rfl
          · kernel_rfl
          · kernel_rfl
          · refine Or.inl (And.intro ?_ ?_)
            · rfl
            · intro w hSw
              try dsimp only at hSw
              first | (go_simp; done) | (go_simp; with_reducible rfl)
          simp only [List.setIfInBounds_toArray, List.set_cons_zero, List.set_cons_succ]
          refine wpAnyH_ready (rs := [4, 7]) (by kernel_rfl) (by simp) ?_
          refine AllReadyH.cons rfl (fun K hK => ?_) (AllReadyH.cons rfl (fun K hK => ?_) AllReadyH.nil)
          · have hc5 : x4.cell? ⟨r, 5, none⟩ = some (.slice a1 j2 cc) := HKB.out.cell rfl
            go_simp
            refine hK.out _ _ trivial (fun _ => ?_)
            clear hK K
            clear hc5
            refine wpAnyH_ready (rs := [7]) (by kernel_rfl) (by simp) ?_
            refine AllReadyH.cons rfl (fun K hK => ?_) AllReadyH.nil
            go_simp
            go_wp2_with (go_at_call 64; (with_reducible refine (HMK.out _ Nw.refl.drew).mono ?_); rintro e wq ⟨rfl, q, hq⟩; have HQN := Lib.hid (show Nw x4 wq from by rw [hq]; exact Nw.refl.drew.drewN q); clear hq)
            refine hK.out _ _ trivial (fun _ => ?_)
            clear hK K
            refine wpAnyH_ready (rs := [8]) (by kernel_rfl) (by simp) ?_
            refine AllReadyH.cons rfl (fun K hK => ?_) AllReadyH.nil
            go_simp
            go_wp2_with (go_at_call 63; (with_reducible refine (HMC.out _ HQN.out).mono ?_); rintro e w4 ⟨fv, rfl, hfo, hn4⟩; obtain ⟨fb, fc, rfl, hfc, hfb, hfl, hfcell⟩ := own_st hfo hF0; have HN4 := Lib.hid (HQN.out.trans hn4); rw [HFN.out]; clear hfo hfb hfl hfc hn4)
            refine hK.out _ _ trivial (fun _ => ?_)
            clear hK K
            refine wpAnyH_ready (rs := [9]) (by kernel_rfl) (by simp) ?_
            refine AllReadyH.cons rfl (fun K hK => ?_) AllReadyH.nil
            refine ready_if rfl ?_
            refine wp_append_qsm _ rfl (.tmp 79) (.tmp 83) 56 rfl 115 i0 (.agg #[.int .i64 0, .int .i64 0, .int .i64 0, .int .u64 0]) 4 32 Tryz.underlying56 hi hz0 hz1 hz2 rfl (by decide) a1 j2 cc (stR S2) rfl HLN.out (HQS.out.nw HN4.out) nM hF2 (by unfold maxLen; omega) (by omega) ⟨fb, 0, none⟩ fc (stR M) rfl hlF hfcell (stR_one M) ?_
            intro a3 c3 w6 hq6 hu6 hn6
            go_simp
            refine hK.out _ _ trivial (fun _ => ?_)
            clear hK K
            have hkb6 := hu6.blk (HKB.out.nw HN4.out) HRQ.out
            have hc56 : w6.cell? ⟨r, 5, none⟩ = some (.slice a1 j2 cc) := hkb6.cell rfl
            have hf56 : w6.frozen? ⟨r, 5, none⟩ = false := hkb6.frozen 5
            have hT : (fun _ : World => True) w6 := trivial
            refine takeD (i := 10) (v := ?_) 85 rfl rfl ?_ ?_ ?_ (fun _ _ _ h => h) ?_ (by assumption) ?_
            rotate_left
            · kernel_rfl
            · kernel_rfl
            · kernel_rfl
            · refine Or.inl (And.intro ?_ ?_)
              · rfl
              · intro w hSw
                try dsimp only at hSw
                first | (go_simp; done) | (go_simp; with_reducible rfl)
            simp only [List.setIfInBounds_toArray, List.set_cons_zero, List.set_cons_succ]
            refine takeD (i := 11) (v := ?_) 86 rfl rfl ?_ ?_ ?_ (fun _ _ _ h => h) ?_ (by assumption) ?_
            rotate_left
            · kernel_rfl
            · kernel_rfl
            · kernel_rfl
            · refine Or.inl (And.intro ?_ ?_)
              · rfl
              · intro w hSw
                try dsimp only at hSw
                first | (go_simp; done) | (go_simp; with_reducible rfl)
            simp only [List.setIfInBounds_toArray, List.set_cons_zero, List.set_cons_succ]
            refine wpAnyH_ready (rs := [12]) (by kernel_rfl) (by simp) ?_
            refine AllReadyH.cons rfl (fun K hK => ?_) AllReadyH.nil
            go_simp
            refine hK.out _ _ trivial (fun _ => ?_)
            clear hK K
            refine wpAnyH_done (by kernel_rfl) ?_ _
            refine NoPanic.normal ?_
            have hc3 : j2 + nM ≤ c3 := by
              have := hq6.len
              rw [List.length_append, HLN.out, hlF] at this
              omega
            have hpush := (HMM.out.nw HN4.out).push (M := M) (a3 := a3) (c3 := c3) (w3 := w6) (by rw [HLJ.out, HFN.out]; exact hc3) hq6 hu6 hn6
            rw [HLJ.out, HFN.out] at hpush
            go_wp2_with fail
            go_meet
            exact ⟨a3, hpush⟩

          · go_simp
            go_wp2_with (go_at_call 64; (with_reducible refine (HMK.out _ Nw.refl.drew).mono ?_); rintro e wq ⟨rfl, q, hq⟩; have HQN := Lib.hid (show Nw x4 wq from by rw [hq]; exact Nw.refl.drew.drewN q); clear hq)
            refine hK.out _ _ trivial (fun _ => ?_)
            clear hK K
            refine wpAnyH_ready (rs := [4, 8]) (by kernel_rfl) (by simp) ?_
            refine AllReadyH.cons rfl (fun K hK => ?_) (AllReadyH.cons rfl (fun K hK => ?_) AllReadyH.nil)
            · have hc5 : wq.cell? ⟨r, 5, none⟩ = some (.slice a1 j2 cc) := (HKB.out.nw HQN.out).cell rfl
              go_simp
              refine hK.out _ _ trivial (fun _ => ?_)
              clear hK K
              clear hc5
              refine wpAnyH_ready (rs := [8]) (by kernel_rfl) (by simp) ?_
              refine AllReadyH.cons rfl (fun K hK => ?_) AllReadyH.nil
              go_simp
              go_wp2_with (go_at_call 63; (with_reducible refine (HMC.out _ HQN.out).mono ?_); rintro e w4 ⟨fv, rfl, hfo, hn4⟩; obtain ⟨fb, fc, rfl, hfc, hfb, hfl, hfcell⟩ := own_st hfo hF0; have HN4 := Lib.hid (HQN.out.trans hn4); rw [HFN.out]; clear hfo hfb hfl hfc hn4)
              refine hK.out _ _ trivial (fun _ => ?_)
              clear hK K
              refine wpAnyH_ready (rs := [9]) (by kernel_rfl) (by simp) ?_
              refine AllReadyH.cons rfl (fun K hK => ?_) AllReadyH.nil
              refine ready_if rfl ?_
              refine wp_append_qsm _ rfl (.tmp 79) (.tmp 83) 56 rfl 115 i0 (.agg #[.int .i64 0, .int .i64 0, .int .i64 0, .int .u64 0]) 4 32 Tryz.underlying56 hi hz0 hz1 hz2 rfl (by decide) a1 j2 cc (stR S2) rfl HLN.out (HQS.out.nw HN4.out) nM hF2 (by unfold maxLen; omega) (by omega) ⟨fb, 0, none⟩ fc (stR M) rfl hlF hfcell (stR_one M) ?_
              intro a3 c3 w6 hq6 hu6 hn6
              go_simp
              refine hK.out _ _ trivial (fun _ => ?_)
              clear hK K
              have hkb6 := hu6.blk (HKB.out.nw HN4.out) HRQ.out
              have hc56 : w6.cell? ⟨r, 5, none⟩ = some (.slice a1 j2 cc) := hkb6.cell rfl
              have hf56 : w6.frozen? ⟨r, 5, none⟩ = false := hkb6.frozen 5
              have hT : (fun _ : World => True) w6 := trivial
              refine takeD (i := 10) (v := ?_) 85 rfl rfl ?_ ?_ ?_ (fun _ _ _ h => h) ?_ (by assumption) ?_
              rotate_left
              · kernel_rfl
              · kernel_rfl
              · kernel_rfl
              · refine Or.inl (And.intro ?_ ?_)
                · rfl
                · intro w hSw
                  try dsimp only at hSw
                  first | (go_simp; done) | (go_simp; with_reducible rfl)
              simp only [List.setIfInBounds_toArray, List.set_cons_zero, List.set_cons_succ]
              refine takeD (i := 11) (v := ?_) 86 rfl rfl ?_ ?_ ?_ (fun _ _ _ h => h) ?_ (by assumption) ?_
              rotate_left
              · kernel_rfl
              · kernel_rfl
              · kernel_rfl
              · refine Or.inl (And.intro ?_ ?_)
                · rfl
                · intro w hSw
                  try dsimp only at hSw
                  first | (go_simp; done) | (go_simp; with_reducible rfl)
              simp only [List.setIfInBounds_toArray, List.set_cons_zero, List.set_cons_succ]
              refine wpAnyH_ready (rs := [12]) (by kernel_rfl) (by simp) ?_
              refine AllReadyH.cons rfl (fun K hK => ?_) AllReadyH.nil
              go_simp
              refine hK.out _ _ trivial (fun _ => ?_)
              clear hK K
              refine wpAnyH_done (by kernel_rfl) ?_ _
              refine NoPanic.normal ?_
              have hc3 : j2 + nM ≤ c3 := by
                have := hq6.len
                rw [List.length_append, HLN.out, hlF] at this
                omega
              have hpush := (HMM.out.nw HN4.out).push (M := M) (a3 := a3) (c3 := c3) (w3 := w6) (by rw [HLJ.out, HFN.out]; exact hc3) hq6 hu6 hn6
              rw [HLJ.out, HFN.out] at hpush
              go_wp2_with fail
              go_meet
              exact ⟨a3, hpush⟩

            · go_simp
              go_wp2_with (go_at_call 63; (with_reducible refine (HMC.out _ HQN.out).mono ?_); rintro e w4 ⟨fv, rfl, hfo, hn4⟩; obtain ⟨fb, fc, rfl, hfc, hfb, hfl, hfcell⟩ := own_st hfo hF0; have HN4 := Lib.hid (HQN.out.trans hn4); rw [HFN.out]; clear hfo hfb hfl hfc hn4)
              refine hK.out _ _ trivial (fun _ => ?_)
              clear hK K
              have hc5 : w4.cell? ⟨r, 5, none⟩ = some (.slice a1 j2 cc) := (HKB.out.nw HN4.out).cell rfl
              refine wpAnyH_ready (rs := [4]) (by kernel_rfl) (by simp) ?_
              refine AllReadyH.cons rfl (fun K hK => ?_) AllReadyH.nil
              go_simp
              refine hK.out _ _ trivial (fun _ => ?_)
              clear hK K
              clear hc5
              refine wpAnyH_ready (rs := [9]) (by kernel_rfl) (by simp) ?_
              refine AllReadyH.cons rfl (fun K hK => ?_) AllReadyH.nil
              refine ready_if rfl ?_
              refine wp_append_qsm _ rfl (.tmp 79) (.tmp 83) 56 rfl 115 i0 (.agg #[.int .i64 0, .int .i64 0, .int .i64 0, .int .u64 0]) 4 32 Tryz.underlying56 hi hz0 hz1 hz2 rfl (by decide) a1 j2 cc (stR S2) rfl HLN.out (HQS.out.nw HN4.out) nM hF2 (by unfold maxLen; omega) (by omega) ⟨fb, 0, none⟩ fc (stR M) rfl hlF hfcell (stR_one M) ?_
              intro a3 c3 w6 hq6 hu6 hn6
              go_simp
              refine hK.out _ _ trivial (fun _ => ?_)
              clear hK K
              have hkb6 := hu6.blk (HKB.out.nw HN4.out) HRQ.out
              have hc56 : w6.cell? ⟨r, 5, none⟩ = some (.slice a1 j2 cc) := hkb6.cell rfl
              have hf56 : w6.frozen? ⟨r, 5, none⟩ = false := hkb6.frozen 5
              have hT : (fun _ : World => True) w6 := trivial
              refine takeD (i := 10) (v := ?_) 85 rfl rfl ?_ ?_ ?_ (fun _ _ _ h => h) ?_ (by assumption) ?_
              rotate_left
              · kernel_rfl
              · kernel_rfl
              · kernel_rfl
              · refine Or.inl (And.intro ?_ ?_)
                · rfl
                · intro w hSw
                  try dsimp only at hSw
                  first | (go_simp; done) | (go_simp; with_reducible rfl)
              simp only [List.setIfInBounds_toArray, List.set_cons_zero, List.set_cons_succ]
              refine takeD (i := 11) (v := ?_) 86 rfl rfl ?_ ?_ ?_ (fun _ _ _ h => h) ?_ (by assumption) ?_
              rotate_left
              · kernel_rfl
              · kernel_rfl
              · kernel_rfl
              · refine Or.inl (And.intro ?_ ?_)
                · rfl
                · intro w hSw
                  try dsimp only at hSw
                  first | (go_simp; done) | (go_simp; with_reducible rfl)
              simp only [List.setIfInBounds_toArray, List.set_cons_zero, List.set_cons_succ]
              refine wpAnyH_ready (rs := [12]) (by kernel_rfl) (by simp) ?_
              refine AllReadyH.cons rfl (fun K hK => ?_) AllReadyH.nil
              go_simp
              refine hK.out _ _ trivial (fun _ => ?_)
              clear hK K
              refine wpAnyH_done (by kernel_rfl) ?_ _
              refine NoPanic.normal ?_
              have hc3 : j2 + nM ≤ c3 := by
                have := hq6.len
                rw [List.length_append, HLN.out, hlF] at this
                omega
              have hpush := (HMM.out.nw HN4.out).push (M := M) (a3 := a3) (c3 := c3) (w3 := w6) (by rw [HLJ.out, HFN.out]; exact hc3) hq6 hu6 hn6
              rw [HLJ.out, HFN.out] at hpush
              go_wp2_with fail
              go_meet
              exact ⟨a3, hpush⟩



        case rest =>
          obtain ⟨a1, hm4⟩ := hcut
          clear HMM HKB HQS HLN HRQ HMC HMK hlF
          generalize wc = x5 at *
          have HMM := Lib.hid hm4
          obtain ⟨S3, hS3⟩ : ∃ S3, S2 ++ M = S3 := ⟨_, rfl⟩
          have hj2 : S3.length = j2 + nM := by rw [← hS3, List.length_append, HLJ.out, HFN.out]
          rw [hS3] at HMM HBL
          clear hS3 hm4 HLJ HFN hF0 hF2
          obtain ⟨j4, hjj⟩ : ∃ j4, j2 + nM = j4 := ⟨_, rfl⟩
          rw [hjj] at hj2
          have hj5 : j4 ≤ 16600 := by omega
          clear hjj hF1 hj3
          have HLJ := Lib.hid hj2
          clear hj2
          have HAP := Lib.hid (show ∀ W, Nw x5 W → Calls Tryz.prog 65 #[.pointer (some ⟨r, 0, none⟩), .slice la n lc] W (OwnS W (applyL (A : Int) l)) from fun W u => by
            have := from_any r d g k S3 a1 hm hk la n lc n₀ l HL0.out (by omega) HXB.out W (Nat.le_trans (HNX.out _ _ _ HMM.out) u.b.size) (HPX.out _ _ _ HMM.out W u) (HMM.out.rr.nw u)
            rw [hA] at this
            exact this)
          unfold OwnS at HAP
          have hF1 : (applyL (A : Int) l).length ≤ 17000 := by
            have e1 := bothL_len 4 5 l
            have e2 := markL_len 6 (A : Int) 0
            rw [HL0.out] at e1
            unfold applyL
            rw [List.length_append]
            omega
          have hF0 : 0 < (applyL (A : Int) l).length := by
            have h1 : 0 < (markL 6 (A : Int) 0).length := by unfold markL bothL; simp [storeL]
            unfold applyL
            rw [List.length_append]
            omega
          generalize applyL (A : Int) l = P at *
          have hlF := stR_len P
          obtain ⟨nP, hnP⟩ : ∃ nP, P.length = nP := ⟨_, rfl⟩
          have HFN := Lib.hid hnP
          rw [hnP] at hF1 hlF
          have hF2 : 0 < nP := by omega
          clear hnP
          obtain ⟨cc, hkb, hjc, hqs⟩ := HMM.out.rr.k
          rw [HLJ.out] at hkb hjc
          have HKB := Lib.hid hkb
          have HQS := Lib.hid hqs
          have HLN := Lib.hid (show (stR S3).length = j4 * 4 by rw [stR_len, HLJ.out])
          have HRQ : Hid (¬ QB a1 r) := fun hx => (HMM.out.rr.qtag hx).ne HMM.out.rr.tag (by decide) rfl
          clear hkb hqs

          go_upto_region 15 with fail
          go_cut [] (fun wx => ∃ a', RRunM w2 r d g k a (S3 ++ P) a' wx)
          case first =>
            refine wp_region_noPanic ?_
            refine wp_region_held_drew (S := (fun _ => True)) (by kernel_rfl) ?_ (fun hHeld => ?_)
            · trivial
            refine takeD (i := 0) (v := ?_) 87 rfl rfl ?_ ?_ ?_ (fun _ _ _ h => h) ?_ (by assumption) ?_
            rotate_left
            · kernel_rfl
            · kernel_rfl
            · kernel_rfl
            · refine Or.inl (And.intro ?_ ?_)
              · rfl
              · intro w hSw
                try dsimp only at hSw
                first | (go_simp; done) | (go_simp; with_reducible rfl)
            simp only [List.setIfInBounds_toArray, List.set_cons_zero, List.set_cons_succ]
            refine takeD (i := 1) (v := ?_) 88 rfl rfl ?_ ?_ ?_ (fun _ _ _ h => h) ?_ (by assumption) ?_
            rotate_left
            · kernel_rfl
            · kernel_rfl
            · kernel_rfl
            · refine Or.inl (And.intro ?_ ?_)
              · rfl
              · intro w hSw
                try dsimp only at hSw
                first | (go_simp; done) | (go_simp; with_reducible rfl)
            simp only [List.setIfInBounds_toArray, List.set_cons_zero, List.set_cons_succ]
            refine takeD (i := 2) (v := ?_) 89 rfl rfl ?_ ?_ ?_ (fun _ _ _ h => h) ?_ (by assumption) ?_
            rotate_left
            · kernel_rfl
            · kernel_rfl
            · kernel_rfl
            · refine Or.inl (And.intro ?_ ?_)
              · rfl
              · intro w hSw
                try dsimp only at hSw
                first | (go_simp; done) | (go_simp; with_reducible rfl)
            simp only [List.setIfInBounds_toArray, List.set_cons_zero, List.set_cons_succ]
            refine takeD (i := 3) (v := ?_) 90 rfl rfl ?_ ?_ ?_ (fun _ _ _ h => h) ?_ (by assumption) ?_
            rotate_left
            · kernel_rfl
            · kernel_rfl
            · kernel_rfl
            · refine Or.inl (And.intro ?_ ?_)
              · rfl
              · intro w hSw
                try dsimp only at hSw
                first | (go_simp; done) | (go_simp; with_reducible rfl)
            simp only [List.setIfInBounds_toArray, List.set_cons_zero, List.set_cons_succ]
            refine takeD (i := 5) (v := ?_) 92 rfl rfl ?_ ?_ ?_ (fun _ _ _ h => h) ?_ (by assumption) ?_
            rotate_left
            · kernel_rfl
            · kernel_rfl
            · kernel_rfl
            · refine Or.inl (And.intro ?_ ?_)
              · rfl
              · intro w hSw
                try dsimp only at hSw
                first | (go_simp; done) | (go_simp; with_reducible rfl)
            simp only [List.setIfInBounds_toArray, List.set_cons_zero, List.set_cons_succ]
            refine takeD (i := 6) (v := ?_) 93 rfl rfl ?_ ?_ ?_ (fun _ _ _ h => h) ?_ (by assumption) ?_
            rotate_left
            · kernel_rfl
            · kernel_rfl
            · kernel_rfl
            · refine Or.inl (And.intro ?_ ?_)
              · rfl
              · intro w hSw
                try dsimp only at hSw
                first | (go_simp; done) | (go_simp; with_reducible rfl)
            simp only [List.setIfInBounds_toArray, List.set_cons_zero, List.set_cons_succ]
            refine wpAnyH_ready (rs := [4, 7]) (by kernel_rfl) (by simp) ?_
            refine AllReadyH.cons rfl (fun K hK => ?_) (AllReadyH.cons rfl (fun K hK => ?_) AllReadyH.nil)
            · have hc5 : x5.cell? ⟨r, 5, none⟩ = some (.slice a1 j4 cc) := HKB.out.cell rfl
              go_simp
              refine hK.out _ _ trivial (fun _ => ?_)
              clear hK K
              clear hc5
              refine wpAnyH_ready (rs := [7]) (by kernel_rfl) (by simp) ?_
              refine AllReadyH.cons rfl (fun K hK => ?_) AllReadyH.nil
              go_simp
              go_wp2_with (go_at_call 65; (with_reducible refine (HAP.out _ Nw.refl.drew).mono ?_); rintro e w4 ⟨fv, rfl, hfo, hn4⟩; obtain ⟨fb, fc, rfl, hfc, hfb, hfl, hfcell⟩ := own_st hfo hF0; have HN4 := Lib.hid (Nw.refl.drew.trans hn4); rw [HFN.out]; clear hfo hfb hfl hfc hn4)
              refine hK.out _ _ trivial (fun _ => ?_)
              clear hK K
              refine wpAnyH_ready (rs := [8]) (by kernel_rfl) (by simp) ?_
              refine AllReadyH.cons rfl (fun K hK => ?_) AllReadyH.nil
              refine ready_if rfl ?_
              refine wp_append_qsm _ rfl (.tmp 91) (.tmp 94) 56 rfl 115 i0 (.agg #[.int .i64 0, .int .i64 0, .int .i64 0, .int .u64 0]) 4 32 Tryz.underlying56 hi hz0 hz1 hz2 rfl (by decide) a1 j4 cc (stR S3) rfl HLN.out (HQS.out.nw HN4.out) nP hF2 (by unfold maxLen; omega) (by omega) ⟨fb, 0, none⟩ fc (stR P) rfl hlF hfcell (stR_one P) ?_
              intro a3 c3 w6 hq6 hu6 hn6
              go_simp
              refine hK.out _ _ trivial (fun _ => ?_)
              clear hK K
              have hkb6 := hu6.blk (HKB.out.nw HN4.out) HRQ.out
              have hc56 : w6.cell? ⟨r, 5, none⟩ = some (.slice a1 j4 cc) := hkb6.cell rfl
              have hf56 : w6.frozen? ⟨r, 5, none⟩ = false := hkb6.frozen 5
              have hT : (fun _ : World => True) w6 := trivial
              refine takeD (i := 9) (v := ?_) 96 rfl rfl ?_ ?_ ?_ (fun _ _ _ h => h) ?_ (by assumption) ?_
              rotate_left
              · kernel_rfl
              · kernel_rfl
              · kernel_rfl
              · refine Or.inl (And.intro ?_ ?_)
                · rfl
                · intro w hSw
                  try dsimp only at hSw
                  first | (go_simp; done) | (go_simp; with_reducible rfl)
              simp only [List.setIfInBounds_toArray, List.set_cons_zero, List.set_cons_succ]
              refine takeD (i := 10) (v := ?_) 97 rfl rfl ?_ ?_ ?_ (fun _ _ _ h => h) ?_ (by assumption) ?_
              rotate_left
              · kernel_rfl
              · kernel_rfl
              · kernel_rfl
              · refine Or.inl (And.intro ?_ ?_)
                · rfl
                · intro w hSw
                  try dsimp only at hSw
                  first | (go_simp; done) | (go_simp; with_reducible rfl)
              simp only [List.setIfInBounds_toArray, List.set_cons_zero, List.set_cons_succ]
              refine wpAnyH_ready (rs := [11]) (by kernel_rfl) (by simp) ?_
              refine AllReadyH.cons rfl (fun K hK => ?_) AllReadyH.nil
              go_simp
              refine hK.out _ _ trivial (fun _ => ?_)
              clear hK K
              refine wpAnyH_done (by kernel_rfl) ?_ _
              refine NoPanic.normal ?_
              have hc3 : j4 + nP ≤ c3 := by
                have := hq6.len
                rw [List.length_append, HLN.out, hlF] at this
                omega
              have hpush := (HMM.out.nw HN4.out).push (M := P) (a3 := a3) (c3 := c3) (w3 := w6) (by rw [HLJ.out, HFN.out]; exact hc3) hq6 hu6 hn6
              rw [HLJ.out, HFN.out] at hpush
              go_wp2_with fail
              go_meet
              exact ⟨a3, hpush⟩

            · go_simp
              go_wp2_with (go_at_call 65; (with_reducible refine (HAP.out _ Nw.refl.drew).mono ?_); rintro e w4 ⟨fv, rfl, hfo, hn4⟩; obtain ⟨fb, fc, rfl, hfc, hfb, hfl, hfcell⟩ := own_st hfo hF0; have HN4 := Lib.hid (Nw.refl.drew.trans hn4); rw [HFN.out]; clear hfo hfb hfl hfc hn4)
              refine hK.out _ _ trivial (fun _ => ?_)
              clear hK K
              have hc5 : w4.cell? ⟨r, 5, none⟩ = some (.slice a1 j4 cc) := (HKB.out.nw HN4.out).cell rfl
              refine wpAnyH_ready (rs := [4]) (by kernel_rfl) (by simp) ?_
              refine AllReadyH.cons rfl (fun K hK => ?_) AllReadyH.nil
              go_simp
              refine hK.out _ _ trivial (fun _ => ?_)
              clear hK K
              clear hc5
              refine wpAnyH_ready (rs := [8]) (by kernel_rfl) (by simp) ?_
              refine AllReadyH.cons rfl (fun K hK => ?_) AllReadyH.nil
              refine ready_if rfl ?_
              refine wp_append_qsm _ rfl (.tmp 91) (.tmp 94) 56 rfl 115 i0 (.agg #[.int .i64 0, .int .i64 0, .int .i64 0, .int .u64 0]) 4 32 Tryz.underlying56 hi hz0 hz1 hz2 rfl (by decide) a1 j4 cc (stR S3) rfl HLN.out (HQS.out.nw HN4.out) nP hF2 (by unfold maxLen; omega) (by omega) ⟨fb, 0, none⟩ fc (stR P) rfl hlF hfcell (stR_one P) ?_
              intro a3 c3 w6 hq6 hu6 hn6
              go_simp
              refine hK.out _ _ trivial (fun _ => ?_)
              clear hK K
              have hkb6 := hu6.blk (HKB.out.nw HN4.out) HRQ.out
              have hc56 : w6.cell? ⟨r, 5, none⟩ = some (.slice a1 j4 cc) := hkb6.cell rfl
              have hf56 : w6.frozen? ⟨r, 5, none⟩ = false := hkb6.frozen 5
              have hT : (fun _ : World => True) w6 := trivial
              refine takeD (i := 9) (v := ?_) 96 rfl rfl ?_ ?_ ?_ (fun _ _ _ h => h) ?_ (by assumption) ?_
              rotate_left
              · kernel_rfl
              · kernel_rfl
              · kernel_rfl
              · refine Or.inl (And.intro ?_ ?_)
                · rfl
                · intro w hSw
                  try dsimp only at hSw
                  first | (go_simp; done) | (go_simp; with_reducible rfl)
              simp only [List.setIfInBounds_toArray, List.set_cons_zero, List.set_cons_succ]
              refine takeD (i := 10) (v := ?_) 97 rfl rfl ?_ ?_ ?_ (fun _ _ _ h => h) ?_ (by assumption) ?_
              rotate_left
              · kernel_rfl
              · kernel_rfl
              · kernel_rfl
              · refine Or.inl (And.intro ?_ ?_)
                · rfl
                · intro w hSw
                  try dsimp only at hSw
                  first | (go_simp; done) | (go_simp; with_reducible rfl)
              simp only [List.setIfInBounds_toArray, List.set_cons_zero, List.set_cons_succ]
              refine wpAnyH_ready (rs := [11]) (by kernel_rfl) (by simp) ?_
              refine AllReadyH.cons rfl (fun K hK => ?_) AllReadyH.nil
              go_simp
              refine hK.out _ _ trivial (fun _ => ?_)
              clear hK K
              refine wpAnyH_done (by kernel_rfl) ?_ _
              refine NoPanic.normal ?_
              have hc3 : j4 + nP ≤ c3 := by
                have := hq6.len
                rw [List.length_append, HLN.out, hlF] at this
                omega
              have hpush := (HMM.out.nw HN4.out).push (M := P) (a3 := a3) (c3 := c3) (w3 := w6) (by rw [HLJ.out, HFN.out]; exact hc3) hq6 hu6 hn6
              rw [HLJ.out, HFN.out] at hpush
              go_wp2_with fail
              go_meet
              exact ⟨a3, hpush⟩


          case rest =>
            obtain ⟨a6, hm6⟩ := hcut
            rw [← HBL.out] at hm6
            have HM6 := Lib.hid hm6
            clear hm6 HMM HKB HQS HLN HRQ HAP HLJ HFN
            go_wp2_with fail
            go_ret
            exact ⟨rfl, a6, HM6.out.rr, UpO.pre HN2.out HM6.out.u, fun x hx => (HM6.out.o x hx).imp id (Nat.le_trans HN2.out.b.size)⟩
end Go.Proofs.YtkopfnldgnkkoaaGreat
