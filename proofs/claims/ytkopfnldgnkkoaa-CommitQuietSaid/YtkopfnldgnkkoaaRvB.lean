/-
  THE DOCUMENT's DEVICES OF N WORDS: Evict.
-/
import Derived.Test.YtkopfnldgnkkoaaRvA
import Derived.Test.YtkopfnldgnkkoaaRdC
namespace Go.Proofs.Ytkopfnldgnkkoaa
open Go.RowKit Go.Shelf
set_option linter.unusedVariables false

/-- What has been done with the words of a line ahead of the j-th word. -/
def partU (i j : Nat) (op : Wd → Wd) (f : Nat → Wd) : Nat → Wd := fun k => if i * 8 ≤ k ∧ k < j ∧ (f k).loose = true then op (f k) else f k
theorem partU_zero (i : Nat) (op : Wd → Wd) (f : Nat → Wd) : partU i (i * 8) op f = f := by
  funext k; unfold partU; rw [if_neg (by omega)]
theorem partU_at (i j : Nat) (op : Wd → Wd) (f : Nat → Wd) : partU i j op f j = f j := by unfold partU; rw [if_neg (by omega)]
theorem partU_skip {i j : Nat} {op : Wd → Wd} {f : Nat → Wd} (h : (f j).loose = false) : partU i (j + 1) op f = partU i j op f := by
  funext k; unfold partU
  by_cases e : k = j
  · subst e; rw [if_neg (by rw [h]; simp), if_neg (by omega)]
  · by_cases c : i * 8 ≤ k ∧ k < j ∧ (f k).loose = true
    · rw [if_pos c, if_pos ⟨c.1, by omega, c.2.2⟩]
    · rw [if_neg c, if_neg (fun cc => c ⟨cc.1, by omega, cc.2.2⟩)]
theorem partU_step {i j : Nat} {op : Wd → Wd} {f : Nat → Wd} (hj : i * 8 ≤ j) (h : (f j).loose = true) : partU i (j + 1) op f = upd (partU i j op f) j (op (f j)) := by
  funext k; unfold upd
  by_cases e : k = j
  · subst e; rw [if_pos rfl]; unfold partU; rw [if_pos ⟨hj, by omega, h⟩]
  · rw [if_neg e]; unfold partU
    by_cases c : i * 8 ≤ k ∧ k < j ∧ (f k).loose = true
    · rw [if_pos c, if_pos ⟨c.1, by omega, c.2.2⟩]
    · rw [if_neg c, if_neg (fun cc => c ⟨cc.1, by omega, cc.2.2⟩)]
theorem partU_all (i : Nat) (op : Wd → Wd) (f : Nat → Wd) : partU i (i * 8 + 8) op f = lineU i op f := by
  funext k; unfold partU lineU
  by_cases h : (f k).loose = true
  · by_cases h2 : k / 8 = i
    · rw [if_pos ⟨by omega, by omega, h⟩, if_pos ⟨h2, h⟩]
    · rw [if_neg (fun hh => h2 (by omega)), if_neg (fun hh => h2 hh.1)]
  · rw [if_neg (fun hh => h hh.2.2), if_neg (fun hh => h hh.2)]

set_option maxRecDepth 100000 in
set_option maxHeartbeats 4000000 in
theorem revict_any (d b N : Nat) (f : Nat → Wd) (i : Nat) (hi : i * 8 < N) (w : World) (h : RevAt w d b N f) :
    Calls Try.prog 35 #[.pointer (some ⟨d, 0, none⟩), .int .i64 (i : Int)] w (RevG w d b N (evictU i f)) := by
  have hle := h.le
  have h8 := h.by8
  have HL := Lib.hid (rline_any d b N f (i : Int) w h)
  rw [show decide ((0 : Int) ≤ i ∧ (i : Int) < (N / 8 : Nat)) = true from decide_eq_true (by omega)] at HL
  have HD := Lib.hid h
  clear h
  have hi8 : i * 8 + 8 ≤ N := by omega
  have hi65 : i ≤ 8192 := by omega
  go_enter Try.func35, Try.ntmps35
  go_wp2_with fail
  refine HL.out.mono ?_
  rintro e w1 ⟨rfl, rfl⟩
  go_wp2_with fail
  go_loopw [5] (fun v wr => ∃ j : Nat, i * 8 ≤ j ∧ j ≤ i * 8 + 8 ∧ v = .int .i64 j ∧ RevAt wr d b N (partU i j evictW f) ∧ Up b w wr) (fun v _ => i * 8 + 8 - (intOf v).toNat)
  case atStart => exact ⟨i * 8, Nat.le_refl _, by omega, by go_num, by rw [partU_zero]; exact HD.out, Up.refl _ _⟩
  case round =>
    obtain ⟨j, hj0, hj1, rfl, hdv, hup⟩ := hrel
    have HDV := Lib.hid hdv
    have HUP := Lib.hid hup
    clear hdv hup
    by_cases hlt : j < i * 8 + 8
    · have hs := HDV.out.s
      have hjN : j < N := by omega
      have c2 := HDV.out.a.c2 j hjN
      rw [partU_at] at c2
      cases hl : (f j).loose
      · rw [hl] at c2
        have HSK := Lib.hid (partU_skip (i := i) (op := evictW) hl)
        clear hl
        go_wp2_with fail
        go_roundw
        case rel => exact ⟨j + 1, by omega, by omega, by go_num, by rw [HSK.out]; exact HDV.out, HUP.out⟩
        case measure => simp [intOf]; omega
      · rw [hl] at c2
        have HST := Lib.hid (partU_step (op := evictW) hj0 hl)
        have HAT := Lib.hid (partU_at i j evictW f)
        clear hl
        obtain ⟨g, hg⟩ : ∃ g, partU i j evictW f = g := ⟨_, rfl⟩
        rw [hg] at HDV HST HAT
        clear hg
        have c0 := HDV.out.a.c0 j hjN
        have c1 := HDV.out.a.c1 j hjN
        have c2 := HDV.out.a.c2 j hjN
        have c3 := HDV.out.a.c3 j hjN
        have c4 := HDV.out.a.c4 j hjN
        have c5 := HDV.out.a.c5 j hjN
        have f0 := HDV.out.a.fr (j * 6)
        have f1 := HDV.out.a.fr (j * 6 + 1)
        have f2 := HDV.out.a.fr (j * 6 + 2)
        have f3 := HDV.out.a.fr (j * 6 + 3)
        have f4 := HDV.out.a.fr (j * 6 + 4)
        have f5 := HDV.out.a.fr (j * 6 + 5)
        have hu6 := ((((((Up.refl b wr).set (j * 6) (.int .u64 (g j).seen)).set (j * 6 + 1) (.int .u64 (g j).seen)).set (j * 6 + 2) (.bool false)).set (j * 6 + 3) (.bool false)).set (j * 6 + 4) (.int .u64 0)).set (j * 6 + 5) (.bool false)
        have ha6 := (((((HDV.out.a.set0 j hjN (g j).seen).set1 j hjN (g j).seen).set2 j hjN false).set3 j hjN false).set4 j hjN 0).set5 j hjN false
        simp only [upd_upd, upd_same] at ha6
        have ha7 : RAt ((((((wr.setCell ⟨b, j * 6, none⟩ (.int .u64 (g j).seen)).setCell ⟨b, j * 6 + 1, none⟩ (.int .u64 (g j).seen)).setCell ⟨b, j * 6 + 2, none⟩ (.bool false)).setCell ⟨b, j * 6 + 3, none⟩ (.bool false)).setCell ⟨b, j * 6 + 4, none⟩ (.int .u64 0)).setCell ⟨b, j * 6 + 5, none⟩ (.bool false)) b N (upd g j (evictW (g j))) := ha6
        clear ha6
        obtain ⟨W6, hW6⟩ : ∃ W6, (((((wr.setCell ⟨b, j * 6, none⟩ (.int .u64 (g j).seen)).setCell ⟨b, j * 6 + 1, none⟩ (.int .u64 (g j).seen)).setCell ⟨b, j * 6 + 2, none⟩ (.bool false)).setCell ⟨b, j * 6 + 3, none⟩ (.bool false)).setCell ⟨b, j * 6 + 4, none⟩ (.int .u64 0)).setCell ⟨b, j * 6 + 5, none⟩ (.bool false) = W6 := ⟨_, rfl⟩
        rw [hW6] at hu6 ha7
        have hc1 := ha7.c1 j hjN
        rw [upd_same] at hc1
        have HC1 : Hid (W6.cell? ⟨b, j * 6 + 1, none⟩ = some (.int .u64 (g j).seen)) := hc1
        have HCS := Lib.hid (hu6.cell hs HDV.out.ne)
        have HU := Lib.hid (hu6.nw Nw.refl.drew)
        have HA := Lib.hid (show RevAt W6.drew d b N (upd g j (evictW (g j))) from ⟨HDV.out.k.up HU.out HDV.out.ne, ha7.up (t := W6.heap.size) (.of_nw Nw.refl.drew) (Nat.ne_of_lt ha7.ty.lt), HDV.out.pos, HDV.out.le, HDV.out.by8⟩)
        have HW6 := Lib.hid hW6
        clear hW6 hu6 ha7 hc1
        go_upto_region 7 with fail
        refine wp_region_noPanic ?_
        refine wp_region_held_drew (S := (fun w' => w'.cell? ⟨d, 0, none⟩ = some (.slice (some ⟨b, 0, none⟩) N N) ∧ w'.cell? ⟨b, j * 6 + 1, none⟩ = some (.int .u64 (g j).seen))) (by kernel_rfl) ?_ (fun hHeld => ?_)
        · exact ⟨hs, c1⟩
        refine takeD (i := 0) (v := ?_) 27 rfl rfl ?_ ?_ ?_ (fun _ _ _ h => h) ?_ (by assumption) ?_
        rotate_left
        · kernel_rfl
        · kernel_rfl
        · kernel_rfl
        · refine Or.inl (And.intro ?_ ?_)
          · rfl
          · intro w hSw
            obtain ⟨hs, c1⟩ := hSw
            first | (go_simp; done) | (go_simp; with_reducible rfl)
        simp only [List.setIfInBounds_toArray, List.set_cons_zero, List.set_cons_succ]
        refine takeD (i := 1) (v := ?_) 28 rfl rfl ?_ ?_ ?_ (fun _ _ _ h => h) ?_ (by assumption) ?_
        rotate_left
        · kernel_rfl
        · kernel_rfl
        · kernel_rfl
        · refine Or.inl (And.intro ?_ ?_)
          · rfl
          · intro w hSw
            obtain ⟨hs, c1⟩ := hSw
            first | (go_simp; done) | (go_simp; with_reducible rfl)
        simp only [List.setIfInBounds_toArray, List.set_cons_zero, List.set_cons_succ]
        refine takeD (i := 2) (v := ?_) 29 rfl rfl ?_ ?_ ?_ (fun _ _ _ h => h) ?_ (by assumption) ?_
        rotate_left
        · kernel_rfl
        · kernel_rfl
        · kernel_rfl
        · refine Or.inl (And.intro ?_ ?_)
          · rfl
          · intro w hSw
            obtain ⟨hs, c1⟩ := hSw
            first | (go_simp; done) | (go_simp; with_reducible rfl)
        simp only [List.setIfInBounds_toArray, List.set_cons_zero, List.set_cons_succ]
        refine takeD (i := 3) (v := ?_) 30 rfl rfl ?_ ?_ ?_ (fun _ _ _ h => h) ?_ (by assumption) ?_
        rotate_left
        · kernel_rfl
        · kernel_rfl
        · kernel_rfl
        · refine Or.inl (And.intro ?_ ?_)
          · rfl
          · intro w hSw
            obtain ⟨hs, c1⟩ := hSw
            first | (go_simp; done) | (go_simp; with_reducible rfl)
        simp only [List.setIfInBounds_toArray, List.set_cons_zero, List.set_cons_succ]
        refine takeD (i := 4) (v := ?_) 31 rfl rfl ?_ ?_ ?_ (fun _ _ _ h => h) ?_ (by assumption) ?_
        rotate_left
        · kernel_rfl
        · kernel_rfl
        · kernel_rfl
        · refine Or.inl (And.intro ?_ ?_)
          · rfl
          · intro w hSw
            obtain ⟨hs, c1⟩ := hSw
            first | (go_simp; done) | (go_simp; with_reducible rfl)
        simp only [List.setIfInBounds_toArray, List.set_cons_zero, List.set_cons_succ]
        refine takeD (i := 5) (v := ?_) 32 rfl rfl ?_ ?_ ?_ (fun _ _ _ h => h) ?_ (by assumption) ?_
        rotate_left
        · kernel_rfl
        · kernel_rfl
        · kernel_rfl
        · refine Or.inl (And.intro ?_ ?_)
          · rfl
          · intro w hSw
            obtain ⟨hs, c1⟩ := hSw
            first | (go_simp; done) | (go_simp; with_reducible rfl)
        simp only [List.setIfInBounds_toArray, List.set_cons_zero, List.set_cons_succ]
        refine takeD (i := 6) (v := ?_) 33 rfl rfl ?_ ?_ ?_ (fun _ _ _ h => h) ?_ (by assumption) ?_
        rotate_left
        · kernel_rfl
        · kernel_rfl
        · kernel_rfl
        · refine Or.inl (And.intro ?_ ?_)
          · rfl
          · intro w hSw
            obtain ⟨hs, c1⟩ := hSw
            first | (go_simp; done) | (go_simp; with_reducible rfl)
        simp only [List.setIfInBounds_toArray, List.set_cons_zero, List.set_cons_succ]
        refine takeD (i := 7) (v := ?_) 34 rfl rfl ?_ ?_ ?_ (fun _ _ _ h => h) ?_ (by assumption) ?_
        rotate_left
        · kernel_rfl
        · kernel_rfl
        · kernel_rfl
        · refine Or.inl (And.intro ?_ ?_)
          · rfl
          · intro w hSw
            obtain ⟨hs, c1⟩ := hSw
            first | (go_simp; done) | (go_simp; with_reducible rfl)
        simp only [List.setIfInBounds_toArray, List.set_cons_zero, List.set_cons_succ]
        refine takeD (i := 8) (v := ?_) 35 rfl rfl ?_ ?_ ?_ (fun _ _ _ h => h) ?_ (by assumption) ?_
        rotate_left
        · kernel_rfl
        · kernel_rfl
        · kernel_rfl
        · refine Or.inl (And.intro ?_ ?_)
          · rfl
          · intro w hSw
            obtain ⟨hs, c1⟩ := hSw
            first | (go_simp; done) | (go_simp; with_reducible rfl)
        simp only [List.setIfInBounds_toArray, List.set_cons_zero, List.set_cons_succ]
        refine takeD (i := 9) (v := ?_) 36 rfl rfl ?_ ?_ ?_ (fun _ _ _ h => h) ?_ (by assumption) ?_
        rotate_left
        · kernel_rfl
        · kernel_rfl
        · kernel_rfl
        · refine Or.inl (And.intro ?_ ?_)
          · rfl
          · intro w hSw
            obtain ⟨hs, c1⟩ := hSw
            first | (go_simp; done) | (go_simp; with_reducible rfl)
        simp only [List.setIfInBounds_toArray, List.set_cons_zero, List.set_cons_succ]
        refine takeD (i := 10) (v := ?_) 37 rfl rfl ?_ ?_ ?_ (fun _ _ _ h => h) ?_ (by assumption) ?_
        rotate_left
        · kernel_rfl
        · kernel_rfl
        · kernel_rfl
        · refine Or.inl (And.intro ?_ ?_)
          · rfl
          · intro w hSw
            obtain ⟨hs, c1⟩ := hSw
            first | (go_simp; done) | (go_simp; with_reducible rfl)
        simp only [List.setIfInBounds_toArray, List.set_cons_zero, List.set_cons_succ]
        refine takeD (i := 11) (v := ?_) 38 rfl rfl ?_ ?_ ?_ (fun _ _ _ h => h) ?_ (by assumption) ?_
        rotate_left
        · kernel_rfl
        · kernel_rfl
        · kernel_rfl
        · refine Or.inl (And.intro ?_ ?_)
          · rfl
          · intro w hSw
            obtain ⟨hs, c1⟩ := hSw
            first | (go_simp; done) | (go_simp; with_reducible rfl)
        simp only [List.setIfInBounds_toArray, List.set_cons_zero, List.set_cons_succ]
        refine takeD (i := 12) (v := ?_) 39 rfl rfl ?_ ?_ ?_ (fun _ _ _ h => h) ?_ (by assumption) ?_
        rotate_left
        · kernel_rfl
        · kernel_rfl
        · kernel_rfl
        · refine Or.inl (And.intro ?_ ?_)
          · rfl
          · intro w hSw
            obtain ⟨hs, c1⟩ := hSw
            first | (go_simp; done) | (go_simp; with_reducible rfl)
        simp only [List.setIfInBounds_toArray, List.set_cons_zero, List.set_cons_succ]
        refine takeD (i := 13) (v := ?_) 40 rfl rfl ?_ ?_ ?_ (fun _ _ _ h => h) ?_ (by assumption) ?_
        rotate_left
        · kernel_rfl
        · kernel_rfl
        · kernel_rfl
        · refine Or.inl (And.intro ?_ ?_)
          · rfl
          · intro w hSw
            obtain ⟨hs, c1⟩ := hSw
            first | (go_simp; done) | (go_simp; with_reducible rfl)
        simp only [List.setIfInBounds_toArray, List.set_cons_zero, List.set_cons_succ]
        refine takeD (i := 14) (v := ?_) 41 rfl rfl ?_ ?_ ?_ (fun _ _ _ h => h) ?_ (by assumption) ?_
        rotate_left
        · kernel_rfl
        · kernel_rfl
        · kernel_rfl
        · refine Or.inl (And.intro ?_ ?_)
          · rfl
          · intro w hSw
            obtain ⟨hs, c1⟩ := hSw
            first | (go_simp; done) | (go_simp; with_reducible rfl)
        simp only [List.setIfInBounds_toArray, List.set_cons_zero, List.set_cons_succ]
        refine takeD (i := 15) (v := ?_) 42 rfl rfl ?_ ?_ ?_ (fun _ _ _ h => h) ?_ (by assumption) ?_
        rotate_left
        · kernel_rfl
        · kernel_rfl
        · kernel_rfl
        · refine Or.inl (And.intro ?_ ?_)
          · rfl
          · intro w hSw
            obtain ⟨hs, c1⟩ := hSw
            first | (go_simp; done) | (go_simp; with_reducible rfl)
        simp only [List.setIfInBounds_toArray, List.set_cons_zero, List.set_cons_succ]
        refine takeD (i := 16) (v := ?_) 43 rfl rfl ?_ ?_ ?_ (fun _ _ _ h => h) ?_ (by assumption) ?_
        rotate_left
        · kernel_rfl
        · kernel_rfl
        · kernel_rfl
        · refine Or.inl (And.intro ?_ ?_)
          · rfl
          · intro w hSw
            obtain ⟨hs, c1⟩ := hSw
            first | (go_simp; done) | (go_simp; with_reducible rfl)
        simp only [List.setIfInBounds_toArray, List.set_cons_zero, List.set_cons_succ]
        refine takeD (i := 17) (v := ?_) 44 rfl rfl ?_ ?_ ?_ (fun _ _ _ h => h) ?_ (by assumption) ?_
        rotate_left
        · kernel_rfl
        · kernel_rfl
        · kernel_rfl
        · refine Or.inl (And.intro ?_ ?_)
          · rfl
          · intro w hSw
            obtain ⟨hs, c1⟩ := hSw
            first | (go_simp; done) | (go_simp; with_reducible rfl)
        simp only [List.setIfInBounds_toArray, List.set_cons_zero, List.set_cons_succ]
        refine takeD (i := 18) (v := ?_) 45 rfl rfl ?_ ?_ ?_ (fun _ _ _ h => h) ?_ (by assumption) ?_
        rotate_left
        · kernel_rfl
        · kernel_rfl
        · kernel_rfl
        · refine Or.inl (And.intro ?_ ?_)
          · rfl
          · intro w hSw
            obtain ⟨hs, c1⟩ := hSw
            first | (go_simp; done) | (go_simp; with_reducible rfl)
        simp only [List.setIfInBounds_toArray, List.set_cons_zero, List.set_cons_succ]
        refine takeD (i := 19) (v := ?_) 46 rfl rfl ?_ ?_ ?_ (fun _ _ _ h => h) ?_ (by assumption) ?_
        rotate_left
        · kernel_rfl
        · kernel_rfl
        · kernel_rfl
        · refine Or.inl (And.intro ?_ ?_)
          · rfl
          · intro w hSw
            obtain ⟨hs, c1⟩ := hSw
            first | (go_simp; done) | (go_simp; with_reducible rfl)
        simp only [List.setIfInBounds_toArray, List.set_cons_zero, List.set_cons_succ]
        refine takeD (i := 20) (v := ?_) 47 rfl rfl ?_ ?_ ?_ (fun _ _ _ h => h) ?_ (by assumption) ?_
        rotate_left
        · kernel_rfl
        · kernel_rfl
        · kernel_rfl
        · refine Or.inl (And.intro ?_ ?_)
          · rfl
          · intro w hSw
            obtain ⟨hs, c1⟩ := hSw
            first | (go_simp; done) | (go_simp; with_reducible rfl)
        simp only [List.setIfInBounds_toArray, List.set_cons_zero, List.set_cons_succ]
        refine takeD (i := 21) (v := ?_) 48 rfl rfl ?_ ?_ ?_ (fun _ _ _ h => h) ?_ (by assumption) ?_
        rotate_left
        · kernel_rfl
        · kernel_rfl
        · kernel_rfl
        · refine Or.inl (And.intro ?_ ?_)
          · rfl
          · intro w hSw
            obtain ⟨hs, c1⟩ := hSw
            first | (go_simp; done) | (go_simp; with_reducible rfl)
        simp only [List.setIfInBounds_toArray, List.set_cons_zero, List.set_cons_succ]
        refine takeD (i := 22) (v := ?_) 49 rfl rfl ?_ ?_ ?_ (fun _ _ _ h => h) ?_ (by assumption) ?_
        rotate_left
        · kernel_rfl
        · kernel_rfl
        · kernel_rfl
        · refine Or.inl (And.intro ?_ ?_)
          · rfl
          · intro w hSw
            obtain ⟨hs, c1⟩ := hSw
            first | (go_simp; done) | (go_simp; with_reducible rfl)
        simp only [List.setIfInBounds_toArray, List.set_cons_zero, List.set_cons_succ]
        refine wpAnyH_ready (rs := [23]) (by kernel_rfl) (by simp) ?_
        refine AllReadyH.cons rfl (fun K hK => ?_) AllReadyH.nil
        go_simp
        refine hK.out _ _ ?_ (fun hHeld2 => ?_)
        · rw [HW6.out]; exact ⟨HCS.out, HC1.out⟩
        clear hK K hHeld
        refine wpAnyH_done (by kernel_rfl) ?_ _
        refine NoPanic.normal ?_
        clear c0 c1 c2 c3 c4 c5 f0 f1 f2 f3 f4 f5 hs
        rw [HW6.out]
        clear HW6
        go_wp2_with fail
        go_roundw
        case rel => exact ⟨j + 1, by omega, by omega, by go_num, by rw [HST.out, ← HAT.out]; exact HA.out, HUP.out.trans HU.out⟩
        case measure => simp [intOf]; omega
    · obtain rfl : j = i * 8 + 8 := by omega
      rw [partU_all] at HDV
      go_wp2_with fail
      go_ret
      exact ⟨rfl, HDV.out, HUP.out⟩

end Go.Proofs.Ytkopfnldgnkkoaa
