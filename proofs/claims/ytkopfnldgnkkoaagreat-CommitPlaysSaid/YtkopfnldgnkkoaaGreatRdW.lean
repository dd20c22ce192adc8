/-
  THE WALK OF grommetref08.Words.
-/
import Derived.Test.YtkopfnldgnkkoaaGreatRdC
namespace Go.Proofs.YtkopfnldgnkkoaaGreat
open Go.RowKit Go.Shelf
set_option linter.unusedVariables false

set_option maxRecDepth 100000 in
set_option maxHeartbeats 4000000 in
theorem rwordsR_any (a : Option Addr) (cap n₀ : Nat) (l : List Wr) (hu : ∀ x ∈ l, x.1 < 9223372036854775808 ∧ u64 x.2) (w : World) (hn₀ : n₀ ≤ w.heap.size) (hI : Pairs .i64 .u64 n₀ w a l) (hreach : l.length ≤ 9223372036854775807) :
    Calls Tryz.prog 61 #[.slice a l.length cap] w (WordsR w l) := by
  obtain ⟨i0, hi, hz0, hz1, hz2⟩ := info_parts8 info_u64
  obtain ⟨n, hn⟩ : ∃ n, l.length = n := ⟨_, rfl⟩
  have HN := Lib.hid hn
  rw [hn] at hreach ⊢
  by_cases h96 : 96 < n
  · have HL := Lib.hid (show wordsL l = [] from if_pos (.inl (by omega)))
    have HE := Lib.hid (show wordsE l = 5 from if_pos (by omega))
    clear hI hu
    go_enter Tryz.func61, Tryz.ntmps61
    go_wp2_with fail
    go_ret2
    exact ⟨none, 0, by rw [HL.out, HE.out]; rfl, by rw [HL.out]; exact Nat.le_refl _, .inl HL.out, Nw.refl, fun p hp => by cases hp⟩
  have hH0 : (w.alloc (.cells #[.int .u64 (n : Int)] 44)).ownsRow w.heap.size 44 1 (.slice (some ⟨w.heap.size, 0, none⟩) (bodyP n (l.take 0)).length 1) (bodyP n (l.take 0)).length ((bodyP n (l.take 0)).map (.int .u64)) :=
    own_one w .u64 (n : Int) _
  have HU := Lib.hid hu
  clear hu
  go_enter Tryz.func61, Tryz.ntmps61
  go_wp2_with fail
  go_loopw [4, 5] (fun o i wr => ∃ (k : Nat), k ≤ n ∧ i = .int .i64 k ∧ neg (l.take k) = false ∧ Below w.heap.size w wr ∧ wr.ownsRow w.heap.size 44 1 o (bodyP n (l.take k)).length ((bodyP n (l.take k)).map (.int .u64))) (fun _ i _ => n - (intOf i).toNat)
  case atStart => exact ⟨0, Nat.zero_le _, rfl, rfl, Nw.refl.alloc _ |>.b, hH0⟩
  case round =>
    obtain ⟨k, hk, rfl, hng, hBr, hrow⟩ := hrel
    clear hH0
    by_cases hlt : k < n
    · rcases hI with e | ⟨b, off, rfl, hb, hcs⟩
      · rw [e] at hn; simp at hn; omega
      have hlk : k < l.length := by omega
      obtain ⟨c1, c2⟩ := hcs k hlk
      obtain ⟨x, hx⟩ : ∃ x, l[k]?.getD (0, 0) = x := ⟨_, rfl⟩
      have hxl : l[k] = x := by rw [← hx]; simp [hlk]
      have hux := HU.out x (by rw [← hxl]; exact List.getElem_mem _)
      have htk : l.take (k + 1) = l.take k ++ [x] := by rw [List.take_succ_eq_append_getElem hlk, hxl]
      rw [hx] at c1 c2
      have c1r : wr.cell? ⟨b, off + k * 2, none⟩ = some (.int .i64 x.1) := (hBr.cell (p := ⟨b, off + k * 2, none⟩) (Nat.lt_of_lt_of_le hb hn₀)).trans c1
      have c2r : wr.cell? ⟨b, off + k * 2 + 1, none⟩ = some (.int .u64 x.2) := (hBr.cell (p := ⟨b, off + k * 2 + 1, none⟩) (Nat.lt_of_lt_of_le hb hn₀)).trans c2
      have HT := Lib.hid htk
      have HNG := Lib.hid hng
      obtain ⟨x1, x2⟩ := x
      dsimp only at c1r c2r hux
      have HC1 := Lib.hid c1
      have HC2 := Lib.hid c2
      have HBN := Lib.hid (Nat.lt_of_lt_of_le hb hn₀)
      clear hcs c1 c2 hx hxl htk hng
      by_cases hneg : x1 < 0
      · have HG := Lib.hid (show neg l = true from neg_take (k := k + 1) (by rw [HT.out, neg_snoc]; simp [hneg]))
        have HL := Lib.hid (show wordsL l = [] from if_pos (.inr HG.out))
        have HE := Lib.hid (show wordsE l = 1 from (if_neg (by omega)).trans (if_pos HG.out))
        clear hrow
        go_wp2_with fail
        go_ret2
        exact ⟨none, 0, by rw [HL.out, HE.out]; rfl, by rw [HL.out]; exact Nat.le_refl _, .inl HL.out, ⟨hBr⟩, fun p hp => by cases hp⟩
      · have hbl := bodyP_len n (l.take k)
        rw [List.length_take_of_le (by omega)] at hbl
        have hrow2 := (own_below (Nw.refl.drew).b hrow).alloc (.cells #[.int .u64 x1, .int .u64 x2] 44)
        have HI2 := Lib.hid (show ∀ j u, [Value.int .u64 x1, .int .u64 x2][j]? = some u → (wr.alloc (.cells #[.int .u64 x1, .int .u64 x2] 44)).drew.cell? (Addr.add ⟨wr.heap.size, 0, none⟩ j) = some u from two_cells wr _ _ _)
        have hu1 : IntKind.u64.wrap x1 = x1 := by rw [wrap_u64]; omega
        have HSZ := Lib.hid (show w.heap.size ≤ (wr.drew.alloc (.cells #[.int .u64 x1, .int .u64 x2] 44)).heap.size from by have := hBr.size; simp; omega)
        have HBR := Lib.hid hBr
        rw [hbl] at hrow2
        go_wp2_with fail
        refine wp_region_noPanic ?_
        refine wp_region_held_drew (S := (fun w' => w'.cell? ⟨b, off + k * 2, none⟩ = some (.int .i64 x1) ∧ w'.cell? ⟨b, off + k * 2 + 1, none⟩ = some (.int .u64 x2) ∧ Below w.heap.size w w')) (by kernel_rfl) ?_ (fun hHeld => ?_)
        · exact ⟨c1r, c2r, hBr.drew⟩
        refine takeD (i := 0) (v := ?_) 25 rfl rfl ?_ ?_ ?_ (fun _ _ _ h => h) ?_ (by assumption) ?_
        rotate_left
        · kernel_rfl
        · kernel_rfl
        · kernel_rfl
        · refine Or.inl (And.intro ?_ ?_)
          · rfl
          · intro w hSw
            try dsimp only at hSw
            first | (go_simp; done) | (go_simp; with_reducible rfl)
        simp only [List.setIfInBounds_toArray, List.set_cons_zero, List.set_cons_succ]
        refine takeD (i := 1) (v := ?_) 26 rfl rfl ?_ ?_ ?_ (fun _ _ _ h => h) ?_ (by assumption) ?_
        rotate_left
        · kernel_rfl
        · kernel_rfl
        · kernel_rfl
        · refine Or.inl (And.intro ?_ ?_)
          · rfl
          · intro w hSw
            try dsimp only at hSw
            first | (go_simp; done) | (go_simp; with_reducible rfl)
        simp only [List.setIfInBounds_toArray, List.set_cons_zero, List.set_cons_succ]
        refine takeD (i := 2) (v := ?_) 27 rfl rfl ?_ ?_ ?_ (fun _ _ _ h => h) ?_ (by assumption) ?_
        rotate_left
        · kernel_rfl
        · kernel_rfl
        · kernel_rfl
        · refine Or.inl (And.intro ?_ ?_)
          · rfl
          · intro w hSw
            try dsimp only at hSw
            first | (go_simp; done) | (go_simp; with_reducible rfl)
        simp only [List.setIfInBounds_toArray, List.set_cons_zero, List.set_cons_succ]
        refine takeD (i := 3) (v := ?_) 28 rfl rfl ?_ ?_ ?_ (fun _ _ _ h => h) ?_ (by assumption) ?_
        rotate_left
        · kernel_rfl
        · kernel_rfl
        · kernel_rfl
        · refine Or.inl (And.intro ?_ ?_)
          · rfl
          · intro w hSw
            try dsimp only at hSw
            first | (go_simp; done) | (go_simp; with_reducible rfl)
        simp only [List.setIfInBounds_toArray, List.set_cons_zero, List.set_cons_succ]
        refine takeD (i := 4) (v := ?_) 29 rfl rfl ?_ ?_ ?_ (fun _ _ _ h => h) ?_ (by assumption) ?_
        rotate_left
        · kernel_rfl
        · kernel_rfl
        · kernel_rfl
        · refine Or.inl (And.intro ?_ ?_)
          · rfl
          · intro w hSw
            try dsimp only at hSw
            first | (go_simp; done) | (go_simp; with_reducible rfl)
        simp only [List.setIfInBounds_toArray, List.set_cons_zero, List.set_cons_succ]
        refine takeD (i := 5) (v := ?_) 30 rfl rfl ?_ ?_ ?_ (fun _ _ _ h => h) ?_ (by assumption) ?_
        rotate_left
        · kernel_rfl
        · kernel_rfl
        · kernel_rfl
        · refine Or.inl (And.intro ?_ ?_)
          · rfl
          · intro w hSw
            try dsimp only at hSw
            first | (go_simp; done) | (go_simp; with_reducible rfl)
        simp only [List.setIfInBounds_toArray, List.set_cons_zero, List.set_cons_succ]
        refine takeD (i := 6) (v := ?_) 31 rfl rfl ?_ ?_ ?_ (fun _ _ _ h => h) ?_ (by assumption) ?_
        rotate_left
        · kernel_rfl
        · kernel_rfl
        · kernel_rfl
        · refine Or.inl (And.intro ?_ ?_)
          · rfl
          · intro w hSw
            try dsimp only at hSw
            first | (go_simp; done) | (go_simp; with_reducible rfl)
        simp only [List.setIfInBounds_toArray, List.set_cons_zero, List.set_cons_succ]
        refine takeD (i := 7) (v := ?_) 32 rfl rfl ?_ ?_ ?_ (fun _ _ _ h => h) ?_ (by assumption) ?_
        rotate_left
        · kernel_rfl
        · kernel_rfl
        · kernel_rfl
        · refine Or.inl (And.intro ?_ ?_)
          · rfl
          · intro w hSw
            try dsimp only at hSw
            first | (go_simp; done) | (go_simp; with_reducible rfl)
        simp only [List.setIfInBounds_toArray, List.set_cons_zero, List.set_cons_succ]
        refine takeD (i := 8) (v := ?_) 33 rfl rfl ?_ ?_ ?_ (fun _ _ _ h => h) ?_ (by assumption) ?_
        rotate_left
        · kernel_rfl
        · kernel_rfl
        · kernel_rfl
        · refine Or.inl (And.intro ?_ ?_)
          · rfl
          · intro w hSw
            try dsimp only at hSw
            first | (go_simp; done) | (go_simp; with_reducible rfl)
        simp only [List.setIfInBounds_toArray, List.set_cons_zero, List.set_cons_succ]
        refine takeD (i := 9) (v := ?_) 34 rfl rfl ?_ ?_ ?_ (fun _ _ _ h => h) ?_ (by assumption) ?_
        rotate_left
        · kernel_rfl
        · kernel_rfl
        · kernel_rfl
        · refine Or.inl (And.intro ?_ ?_)
          · rfl
          · intro w hSw
            try dsimp only at hSw
            first | (go_simp; done) | (go_simp; with_reducible rfl)
        simp only [List.setIfInBounds_toArray, List.set_cons_zero, List.set_cons_succ]
        refine takeD (i := 10) (v := ?_) 35 rfl rfl ?_ ?_ ?_ (fun _ _ _ h => h) ?_ (by assumption) ?_
        rotate_left
        · kernel_rfl
        · kernel_rfl
        · kernel_rfl
        · refine Or.inl (And.intro ?_ ?_)
          · rfl
          · intro w hSw
            try dsimp only at hSw
            first | (go_simp; done) | (go_simp; with_reducible rfl)
        simp only [List.setIfInBounds_toArray, List.set_cons_zero, List.set_cons_succ]
        refine takeD (i := 11) (v := ?_) 36 rfl rfl ?_ ?_ ?_ (fun _ _ _ h => h) ?_ (by assumption) ?_
        rotate_left
        · kernel_rfl
        · kernel_rfl
        · kernel_rfl
        · refine Or.inl (And.intro ?_ ?_)
          · rfl
          · intro w hSw
            try dsimp only at hSw
            first | (go_simp; done) | (go_simp; with_reducible rfl)
        simp only [List.setIfInBounds_toArray, List.set_cons_zero, List.set_cons_succ]
        refine wpAnyH_ready (rs := [12]) (by kernel_rfl) (by simp) ?_
        refine AllReadyH.cons rfl (fun K hK => ?_) AllReadyH.nil
        go_simp
        refine hK.out _ _ ?_ (fun hHeld2 => ?_)
        · exact ⟨(Below.cell (hHeld.2.2.alloc hHeld.2.2.size _) (p := ⟨b, off + k * 2, none⟩) HBN.out).trans HC1.out, (Below.cell (hHeld.2.2.alloc hHeld.2.2.size _) (p := ⟨b, off + k * 2 + 1, none⟩) HBN.out).trans HC2.out, (hHeld.2.2.alloc hHeld.2.2.size _)⟩
        have hHeld := hHeld2
        clear hHeld2 hK K
        refine wpAnyH_ready (rs := [13]) (by kernel_rfl) (by simp) ?_
        refine AllReadyH.cons rfl (fun K hK => ?_) AllReadyH.nil
        refine ready_if rfl ?_
        refine wp_append_own _ (.tmp 25) (.tmp 37) 33 rfl w.heap.size 44 i0 (.int .u64 0) 1 8 Tryz.underlying33 hi hz0 hz1 hz2 rfl (by decide) _ _ _ rfl hrow2 ⟨wr.heap.size, 0, none⟩ 2 2 [.int .u64 x1, .int .u64 x2] rfl rfl HI2.out (by simp [Value.oneCell']) (by unfold maxLen; omega) (by omega) HSZ.out ?_
        intro v3 w3 hown3 hgrow3 hnil3
        go_simp
        have hB3 : Below w.heap.size w w3 := Below.grown hHeld.2.2 hgrow3 HSZ.out (fun k e => (hrow2.lt k e).1)
        clear hnil3 hgrow3
        refine hK.out _ _ ?_ (fun hHeld2 => ?_)
        · exact ⟨(Below.cell hB3 (p := ⟨b, off + k * 2, none⟩) HBN.out).trans HC1.out, (Below.cell hB3 (p := ⟨b, off + k * 2 + 1, none⟩) HBN.out).trans HC2.out, hB3⟩
        have hHeld := hHeld2
        clear hHeld2 hK K
        refine takeD (i := 14) (v := ?_) 4 rfl rfl ?_ ?_ ?_ (fun _ _ _ h => h) ?_ (by assumption) ?_
        rotate_left
        · kernel_rfl
        · kernel_rfl
        · kernel_rfl
        · refine Or.inl (And.intro ?_ ?_)
          · rfl
          · intro w hSw
            try dsimp only at hSw
            first | (go_simp; done) | (go_simp; with_reducible rfl)
        simp only [List.setIfInBounds_toArray, List.set_cons_zero, List.set_cons_succ]
        refine wpAnyH_done (by kernel_rfl) ?_ _
        refine NoPanic.normal ?_
        go_wp2_with fail
        go_roundw
        case rel => exact ⟨k + 1, by omega, by go_num, by rw [HT.out, neg_snoc, HNG.out]; simp; omega, hB3, by rw [HT.out, bodyP_snoc, List.map_append, List.length_append, hbl]; exact hown3⟩
        case measure => simp [intOf]; omega
    · obtain rfl : k = n := by omega
      have htk : l.take k = l := List.take_of_length_le (by omega)
      rw [htk] at hrow hng
      have hbl : bodyP k l = bodyL l := by unfold bodyL; rw [hn]
      rw [hbl] at hrow
      have hlen : (bodyL l).length = 1 + 2 * k := by rw [← hbl, bodyP_len, hn]
      have HL := Lib.hid (show wordsL l = recL l from if_neg (by rintro (h | h); omega; rw [hng] at h; cases h))
      have HE := Lib.hid (show wordsE l = 0 from (if_neg (by omega)).trans (if_neg (by rw [hng]; decide)))
      have HLen := Lib.hid (show (wordsL l).length = 2 + 2 * k from by rw [HL.out, recL_len, hn])
      obtain ⟨va, vc, rfl, _, hIv⟩ := Ints.of_owns hrow
      rw [hlen] at hrow
      have HIV := Lib.hid hIv
      have HROW := Lib.hid (hrow.alloc (.cells #[.int .u64 (sumOf (bodyL l))] 44))
      have HSZ := Lib.hid (show w.heap.size ≤ (wr.alloc (.cells #[.int .u64 (sumOf (bodyL l))] 44)).heap.size from by have := hBr.size; simp; omega)
      rw [hlen]
      clear htk hbl hng hrow hIv
      go_wp2_with fail
      refine (ref_of_len va (1 + 2 * k) vc (bodyL l) hlen (by omega) _ wr HIV.out).mono ?_
      rintro e w2 ⟨rfl, rfl⟩
      go_wp2_with (at_builtin; refine wpList_append_ints _ rfl _ _ 33 rfl w.heap.size 44 i0 (.int .u64 0) 8 Tryz.underlying33 hi hz0 hz1 hz2 rfl _ _ _ rfl HROW.out _ 1 1 .u64 [sumOf (bodyL l)] _ rfl rfl (Ints.one _ _ _ _) (by unfold maxLen; omega) (by omega) HSZ.out ?_; intro v3 w3 hown3 hgrow3; obtain ⟨v3a, v3c, rfl⟩ := own_slice hown3)
      have hB3 : Below w.heap.size w w3 := Below.grown (hBr.alloc hBr.size _) hgrow3 HSZ.out (fun k e => (HROW.out.lt k e).1)
      go_ret2
      have hcap := own_cap hown3
      rw [← List.map_append] at hown3
      obtain ⟨va', vc', he, hl3, hI3⟩ := Ints.of_owns hown3
      simp only [Value.slice.injEq, true_and] at he
      obtain ⟨rfl, rfl⟩ := he
      exact ⟨v3a, v3c, by rw [HLen.out, HE.out, show 2 + 2 * k = 1 + 2 * k + 1 by omega]; rfl, by rw [HLen.out]; omega, by rw [HL.out]; exact hI3, ⟨hB3⟩, own_fresh hown3⟩

end Go.Proofs.YtkopfnldgnkkoaaGreat
