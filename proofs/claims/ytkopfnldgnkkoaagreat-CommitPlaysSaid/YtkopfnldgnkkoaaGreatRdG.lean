/-
  THE WALK OF grommetref08.Read.
-/
import Derived.Test.YtkopfnldgnkkoaaGreatRdE
import Derived.Test.YtkopfnldgnkkoaaGreatRdH
namespace Go.Proofs.YtkopfnldgnkkoaaGreat
open Go.RowKit Go.Shelf
set_option linter.unusedVariables false

theorem smallTo_no {ws : List Int} {g : G} (h : smallTo ws (readN ws) = false) : readOk g ws = false := by unfold readOk; rw [h]; simp

set_option maxRecDepth 100000 in
set_option maxHeartbeats 8000000 in
theorem rread_any (g : G) (a : Option Addr) (cap n₀ : Nat) (ws : List Int) (hc : ws.length ≤ cap) (hu : ∀ n ∈ ws, u64 n) (hreach : ws.length * 8 ≤ 140737488351232) (w : World) (hn₀ : n₀ ≤ w.heap.size) (hI : Ints n₀ .u64 w a ws) :
    Calls Tryz.prog 101 #[gV g, .slice a ws.length cap] w (ReadR g ws w) := by
  obtain ⟨i0, hi, hz0, hz1, hz2⟩ := info_parts8 info_wr
  obtain ⟨len, hlen⟩ : ∃ len, ws.length = len := ⟨_, rfl⟩
  have HLEN := Lib.hid hlen
  have HU := Lib.hid hu
  have B0 := Box.new w g 28
  have h00 : At w w := At.refl
  have h01 := h00.alloc (.cells #[.int .i64 g.w, .int .i64 g.i, .int .i64 g.b] 28)
  have HI := Lib.hid hI
  have HI1 := Lib.hid (hI.below (h01.b.mono hn₀))
  rw [hlen] at hc hreach ⊢
  unfold gV
  by_cases h0 : len = 0
  · subst h0
    have HO := Lib.hid (show readOk g ws = false from by unfold readOk; rw [show decide (isR ws) = false from decide_eq_false (fun h => by have := h.1; omega)]; rfl)
    clear hI hu
    go_enter Tryz.func101, Tryz.ntmps101
    go_wp2_with fail
    go_ret2
    exact readR_no HO.out rfl ⟨h01.b⟩
  obtain ⟨b, off, rfl, hb, hcs⟩ : ∃ b off, a = some ⟨b, off, none⟩ ∧ b < n₀ ∧ ∀ j, j < ws.length → w.cell? ⟨b, off + j, none⟩ = some (.int .u64 (ws[j]?.getD 0)) := by
    rcases hI with rfl | h
    · exact absurd hlen.symm h0
    · exact h
  have HBN := Lib.hid (Nat.lt_of_lt_of_le hb hn₀)
  have hx0 := hd_bd (by omega) hu
  obtain ⟨x, hx⟩ : ∃ x, hd ws = x := ⟨_, rfl⟩
  have HX := Lib.hid hx
  have HCS := Lib.hid hcs
  have c0 := hcs 0 (by omega)
  rw [show ws[0]?.getD 0 = x from hx, Nat.add_zero] at c0
  rw [hx] at hx0
  have c0a := (h01.b.cell (p := ⟨b, off, none⟩) HBN.out).trans c0
  by_cases h1 : 96 < x
  · have HO := Lib.hid (show readOk g ws = false from by unfold readOk; rw [show decide (isR ws) = false from decide_eq_false (fun h => by have := h.2.1; rw [hx] at this; omega)]; rfl)
    clear hu hI hcs hx
    go_enter Tryz.func101, Tryz.ntmps101
    go_wp2_with fail
    go_ret2
    exact readR_no HO.out rfl ⟨h01.b⟩
  obtain ⟨n, rfl⟩ : ∃ n : Nat, x = (n : Int) := ⟨x.toNat, by omega⟩
  have hN : readN ws = n := by unfold readN; rw [hx]; rfl
  have hE : endN ws = 1 + 2 * n := by unfold endN; rw [hx]; rfl
  by_cases h2 : len ≤ 1 + 2 * n
  · have HO := Lib.hid (show readOk g ws = false from by unfold readOk; rw [show decide (isR ws) = false from decide_eq_false (fun h => by have := h.2.2; rw [hx] at this; simp only [Int.toNat_natCast] at this; omega)]; rfl)
    clear hu hI hcs hx hN hE
    go_enter Tryz.func101, Tryz.ntmps101
    go_wp2_with fail
    go_ret2
    exact readR_no HO.out rfl ⟨h01.b⟩
  have HR := Lib.hid (show isR ws from ⟨by omega, by rw [hx]; omega, by rw [hx]; simp only [Int.toNat_natCast]; omega⟩)
  obtain ⟨s, hs⟩ : ∃ s, lastR ws = s := ⟨_, rfl⟩
  have HC := Lib.hid (show w.cell? ⟨b, off + (1 + 2 * n), none⟩ = some (.int .u64 s) from by have := hcs (1 + 2 * n) (by omega); rw [this, ← hs, ← hE]; rfl)
  have HN := Lib.hid hN
  have HE := Lib.hid hE
  have HSS := Lib.hid hs
  clear hu hI hcs hx hN hE hs
  obtain ⟨WB, hWB⟩ : ∃ WB, w.alloc (.cells #[.int .i64 g.w, .int .i64 g.i, .int .i64 g.b] 28) = WB := ⟨_, rfl⟩
  have BW := B0
  have HWD := Lib.hid h01
  have hwW : w.heap.size < WB.heap.size := by rw [← hWB]; simp
  rw [hWB] at BW HWD
  have HWB := Lib.hid hWB
  clear hWB
  go_enter Tryz.func101, Tryz.ntmps101
  go_wp2_with fail
  go_loopw [7, 8] (fun o i wr => ∃ k : Nat, k ≤ n ∧ i = .int .i64 k ∧ smallTo ws k = true ∧ wr.ownsRow (w.heap.size + 1) 91 2 o k (prC (pairsN ws k)) ∧ Below (w.heap.size + 1) WB wr) (fun _ i _ => n - (intOf i).toNat)
  case atStart => exact ⟨0, Nat.zero_le _, rfl, rfl, ⟨rfl, .inl ⟨rfl, rfl⟩⟩, by rw [HWB.out]; exact Below.refl _ _⟩
  case round =>
    obtain ⟨k, hk, rfl, hsm, hrow, hBB⟩ := hrel
    have HSM := Lib.hid hsm
    have hBr : Below w.heap.size w wr := HWD.out.b.trans (hBB.mono (Nat.le_succ _))
    clear hsm c0a B0 h01
    by_cases hlt : k < n
    · obtain ⟨x1, hx1⟩ : ∃ x1, ws[1 + 2 * k]?.getD 0 = x1 := ⟨_, rfl⟩
      obtain ⟨x2, hx2⟩ : ∃ x2, ws[2 + 2 * k]?.getD 0 = x2 := ⟨_, rfl⟩
      have c1 := HCS.out (1 + 2 * k) (by rw [HLEN.out]; omega)
      have c2 := HCS.out (2 + 2 * k) (by rw [HLEN.out]; omega)
      rw [hx1] at c1
      rw [hx2] at c2
      have hx0 : 0 ≤ x1 := by rw [← hx1, List.getElem?_eq_getElem (by rw [HLEN.out]; omega)]; exact (HU.out _ (List.getElem_mem _)).1
      have c1r : wr.cell? ⟨b, off + (1 + 2 * k), none⟩ = some (.int .u64 x1) := (hBr.cell (p := ⟨b, off + (1 + 2 * k), none⟩) HBN.out).trans c1
      have c2r : wr.cell? ⟨b, off + (2 + 2 * k), none⟩ = some (.int .u64 x2) := (hBr.cell (p := ⟨b, off + (2 + 2 * k), none⟩) HBN.out).trans c2
      have HX1 := Lib.hid hx1
      have HX2 := Lib.hid hx2
      clear c1 c2 hx1 hx2
      by_cases hbig : 65536 ≤ x1
      · have HF := Lib.hid (show readOk g ws = false from smallTo_no (by rw [HN.out]; exact smallTo_false hlt (by rw [HX1.out]; omega)))
        clear hrow
        go_wp2_with fail
        go_ret2
        exact readR_no HF.out rfl ⟨hBr⟩
      · have hw1 : IntKind.i64.wrap x1 = x1 := by simp [IntKind.wrap, IntKind.bits, IntKind.signed]; omega
        have hrow2 := hrow.alloc (.cells #[.int .i64 x1, .int .u64 x2] 91)
        have HI2 := Lib.hid (show ∀ j u, [Value.int .i64 x1, .int .u64 x2][j]? = some u → (wr.alloc (.cells #[.int .i64 x1, .int .u64 x2] 91)).cell? (Addr.add ⟨wr.heap.size, 0, none⟩ j) = some u from two_cells wr _ _ _)
        have hsz := hBB.size
        have HSZ := Lib.hid (show w.heap.size + 1 ≤ (wr.alloc (.cells #[.int .i64 x1, .int .u64 x2] 91)).heap.size from by simp; omega)
        have HBA := Lib.hid (hBB.alloc (by show w.heap.size + 1 ≤ wr.heap.size; omega) (.cells #[.int .i64 x1, .int .u64 x2] 91))
        go_wp2_with (at_builtin; refine wpList_append_own _ rfl _ _ 43 rfl (w.heap.size + 1) 91 i0 (.agg #[.int .i64 0, .int .u64 0]) 2 16 Tryz.underlying43 hi hz0 hz1 hz2 rfl (by decide) _ _ _ rfl hrow2 ⟨wr.heap.size, 0, none⟩ 1 1 [.int .i64 x1, .int .u64 x2] rfl rfl HI2.out (by simp [Value.oneCell']) (by unfold maxLen; omega) (by omega) HSZ.out ?_; intro v3 w3 hown3 hgrow3 hnil3; have hB3 : Below (w.heap.size + 1) WB w3 := Below.grown HBA.out hgrow3 HSZ.out (fun k e => (hrow2.lt k e).1); clear hnil3 hgrow3)
        go_roundw
        case rel => exact ⟨k + 1, by omega, by go_num, by rw [smallTo_succ, HSM.out, HX1.out]; simp; omega, by rw [pairsN_succ, prC_snoc, HX1.out, HX2.out]; exact hown3, hB3⟩
        case measure => simp [intOf]; omega
    · obtain rfl : k = n := by omega
      have hpl : (pairsN ws k).length = k := pairsN_len ws k
      have BR : Box wr w.heap.size g := ⟨(hBB.cell (p := ⟨w.heap.size, 0, none⟩) (Nat.lt_succ_self _)).trans BW.c0, (hBB.cell (p := ⟨w.heap.size, 1, none⟩) (Nat.lt_succ_self _)).trans BW.c1, (hBB.cell (p := ⟨w.heap.size, 2, none⟩) (Nat.lt_succ_self _)).trans BW.c2⟩
      obtain ⟨va, vc, rfl, hcv, hPv⟩ := Pairs.of_owns (l := pairsN ws k) (by rw [hpl]; exact hrow)
      have HFR := Lib.hid (fun p hp => Nat.le_of_succ_le (own_fresh hrow p hp))
      rw [hpl] at hcv
      have b0 := BR.c0
      have b1 := BR.c1
      have b2 := BR.c2
      have HMY := Lib.hid (rrmay_any g va vc wr.heap.size (pairsN ws k) wr.drew (Nat.le_refl _) hPv (by rw [hpl]; omega))
      rw [hpl] at HMY
      have HP := Lib.hid hPv
      have c1r : wr.cell? ⟨b, off + (1 + 2 * k), none⟩ = some (.int .u64 s) := (hBr.cell (p := ⟨b, off + (1 + 2 * k), none⟩) HBN.out).trans HC.out
      have HTL := Lib.hid (show (ws.take (1 + 2 * k)).length = 1 + 2 * k from by rw [List.length_take, HLEN.out]; omega)
      have HTI := Lib.hid (show Ints n₀ .u64 wr.drew (some ⟨b, off, none⟩) (ws.take (1 + 2 * k)) from ((HI.out.below (hBr.drew.mono hn₀))).take _)
      obtain ⟨t, ht⟩ : ∃ t, sumOf (ws.take (1 + 2 * k)) = t := ⟨_, rfl⟩
      have HT := Lib.hid ht
      have hz1 : (0 : Int) ≤ 1 + 2 * (k : Int) := by omega
      have hz2 : 1 + 2 * (k : Int) < (len : Int) := by omega
      have hz3 : (1 + 2 * (k : Int)).toNat = 1 + 2 * k := by omega
      have hz4 : IntKind.i64.wrap (2 * (k : Int)) = 2 * (k : Int) := by simp [IntKind.wrap, IntKind.bits, IntKind.signed]; omega
      have hz5 : IntKind.i64.wrap (1 + 2 * (k : Int)) = 1 + 2 * (k : Int) := by simp [IntKind.wrap, IntKind.bits, IntKind.signed]; omega
      have hz6 : 1 + 2 * (k : Int) ≤ (cap : Int) := by omega
      unfold gV at HMY
      clear hrow hPv ht
      rw [hpl]
      by_cases hts : s = t
      case neg =>
        have HO := Lib.hid (show readOk g ws = false from by unfold readOk; rw [HE.out, HT.out, HSS.out, show (t == s) = false from by rw [beq_eq_false_iff_ne]; exact Ne.symm hts]; simp)
        have hbt : (s != t) = true := by rw [bne_iff_ne]; exact hts
        clear hts HMY
        go_wp2_with fail
        refine wp_region_noPanic ?_
        refine wp_region_held_drew (S := (fun w' => w'.cell? ⟨b, off + (1 + 2 * k), none⟩ = some (.int .u64 s) ∧ w'.cell? ⟨w.heap.size, 0, none⟩ = some (.int .i64 g.w) ∧ w'.cell? ⟨w.heap.size, 1, none⟩ = some (.int .i64 g.i) ∧ w'.cell? ⟨w.heap.size, 2, none⟩ = some (.int .i64 g.b) ∧ Below (w.heap.size + 1) WB w')) (by kernel_rfl) ?_ (fun hHeld => ?_)
        · exact ⟨c1r, b0, b1, b2, hBB.drew⟩
        refine takeD (i := 0) (v := ?_) 59 rfl rfl ?_ ?_ ?_ (fun _ _ _ h => h) ?_ (by assumption) ?_
        rotate_left
        · kernel_rfl
        · kernel_rfl
        · kernel_rfl
        · refine Or.inl (And.intro ?_ ?_)
          · rfl
          · intro w hSw
            try dsimp only at hSw
            first | (go_simp; done) | (go_simp; with_reducible rfl)
        simp only [List.setIfInBounds_toArray, List.set_cons_zero, List.set_cons_succ]
        refine takeD (i := 1) (v := ?_) 60 rfl rfl ?_ ?_ ?_ (fun _ _ _ h => h) ?_ (by assumption) ?_
        rotate_left
        · kernel_rfl
        · kernel_rfl
        · kernel_rfl
        · refine Or.inl (And.intro ?_ ?_)
          · rfl
          · intro w hSw
            try dsimp only at hSw
            first | (go_simp; done) | (go_simp; with_reducible rfl)
        simp only [List.setIfInBounds_toArray, List.set_cons_zero, List.set_cons_succ]
        refine takeD (i := 2) (v := ?_) 61 rfl rfl ?_ ?_ ?_ (fun _ _ _ h => h) ?_ (by assumption) ?_
        rotate_left
        · kernel_rfl
        · kernel_rfl
        · kernel_rfl
        · refine Or.inl (And.intro ?_ ?_)
          · rfl
          · intro w hSw
            try dsimp only at hSw
            first | (go_simp; done) | (go_simp; with_reducible rfl)
        simp only [List.setIfInBounds_toArray, List.set_cons_zero, List.set_cons_succ]
        refine takeD (i := 3) (v := ?_) 62 rfl rfl ?_ ?_ ?_ (fun _ _ _ h => h) ?_ (by assumption) ?_
        rotate_left
        · kernel_rfl
        · kernel_rfl
        · kernel_rfl
        · refine Or.inl (And.intro ?_ ?_)
          · rfl
          · intro w hSw
            try dsimp only at hSw
            first | (go_simp; done) | (go_simp; with_reducible rfl)
        simp only [List.setIfInBounds_toArray, List.set_cons_zero, List.set_cons_succ]
        refine takeD (i := 4) (v := ?_) 63 rfl rfl ?_ ?_ ?_ (fun _ _ _ h => h) ?_ (by assumption) ?_
        rotate_left
        · kernel_rfl
        · kernel_rfl
        · kernel_rfl
        · refine Or.inl (And.intro ?_ ?_)
          · rfl
          · intro w hSw
            try dsimp only at hSw
            first | (go_simp; done) | (go_simp; with_reducible rfl)
        simp only [List.setIfInBounds_toArray, List.set_cons_zero, List.set_cons_succ]
        refine takeD (i := 5) (v := ?_) 64 rfl rfl ?_ ?_ ?_ (fun _ _ _ h => h) ?_ (by assumption) ?_
        rotate_left
        · kernel_rfl
        · kernel_rfl
        · kernel_rfl
        · refine Or.inl (And.intro ?_ ?_)
          · rfl
          · intro w hSw
            try dsimp only at hSw
            first | (go_simp; done) | (go_simp; with_reducible rfl)
        simp only [List.setIfInBounds_toArray, List.set_cons_zero, List.set_cons_succ]
        refine takeD (i := 6) (v := ?_) 65 rfl rfl ?_ ?_ ?_ (fun _ _ _ h => h) ?_ (by assumption) ?_
        rotate_left
        · kernel_rfl
        · kernel_rfl
        · kernel_rfl
        · refine Or.inl (And.intro ?_ ?_)
          · rfl
          · intro w hSw
            try dsimp only at hSw
            first | (go_simp; done) | (go_simp; with_reducible rfl)
        simp only [List.setIfInBounds_toArray, List.set_cons_zero, List.set_cons_succ]
        refine takeD (i := 7) (v := ?_) 66 rfl rfl ?_ ?_ ?_ (fun _ _ _ h => h) ?_ (by assumption) ?_
        rotate_left
        · kernel_rfl
        · kernel_rfl
        · kernel_rfl
        · refine Or.inl (And.intro ?_ ?_)
          · rfl
          · intro w hSw
            try dsimp only at hSw
            first | (go_simp; done) | (go_simp; with_reducible rfl)
        simp only [List.setIfInBounds_toArray, List.set_cons_zero, List.set_cons_succ]
        refine takeD (i := 8) (v := ?_) 67 rfl rfl ?_ ?_ ?_ (fun _ _ _ h => h) ?_ (by assumption) ?_
        rotate_left
        · kernel_rfl
        · kernel_rfl
        · kernel_rfl
        · refine Or.inl (And.intro ?_ ?_)
          · rfl
          · intro w hSw
            try dsimp only at hSw
            first | (go_simp; done) | (go_simp; with_reducible rfl)
        simp only [List.setIfInBounds_toArray, List.set_cons_zero, List.set_cons_succ]
        refine takeD (i := 9) (v := ?_) 68 rfl rfl ?_ ?_ ?_ (fun _ _ _ h => h) ?_ (by assumption) ?_
        rotate_left
        · kernel_rfl
        · kernel_rfl
        · kernel_rfl
        · refine Or.inl (And.intro ?_ ?_)
          · rfl
          · intro w hSw
            try dsimp only at hSw
            first | (go_simp; done) | (go_simp; with_reducible rfl)
        simp only [List.setIfInBounds_toArray, List.set_cons_zero, List.set_cons_succ]
        refine takeD (i := 10) (v := ?_) 69 rfl rfl ?_ ?_ ?_ (fun _ _ _ h => h) ?_ (by assumption) ?_
        rotate_left
        · kernel_rfl
        · kernel_rfl
        · kernel_rfl
        · refine Or.inl (And.intro ?_ ?_)
          · rfl
          · intro w hSw
            try dsimp only at hSw
            first | (go_simp; done) | (go_simp; with_reducible rfl)
        simp only [List.setIfInBounds_toArray, List.set_cons_zero, List.set_cons_succ]
        refine wpAnyH_ready (rs := [11]) (by kernel_rfl) (by simp) ?_
        refine AllReadyH.cons rfl (fun K hK => ?_) AllReadyH.nil
        go_simp
        go_wp2_with (go_at_call 99; refine (ref_of_len (some ⟨b, off, none⟩) (1 + 2 * k) cap (ws.take (1 + 2 * k)) HTL.out (by omega) n₀ _ HTI.out).mono ?_; rintro e wX ⟨rfl, rfl⟩; rw [HT.out])
        refine hK.out _ _ ?_ (fun hHeld2 => ?_)
        · exact hHeld
        have hHeld := hHeld2
        clear hHeld2 hK K
        refine takeD (i := 12) (v := ?_) 71 rfl rfl ?_ ?_ ?_ (fun _ _ _ h => h) ?_ (by assumption) ?_
        rotate_left
        · kernel_rfl
        · kernel_rfl
        · kernel_rfl
        · refine Or.inl (And.intro ?_ ?_)
          · rfl
          · intro w hSw
            try dsimp only at hSw
            first | (go_simp; done) | (go_simp; with_reducible rfl)
        simp only [List.setIfInBounds_toArray, List.set_cons_zero, List.set_cons_succ]
        refine takeD (i := 13) (v := ?_) 72 rfl rfl ?_ ?_ ?_ (fun _ _ _ h => h) ?_ (by assumption) ?_
        rotate_left
        · kernel_rfl
        · kernel_rfl
        · kernel_rfl
        · refine Or.inl (And.intro ?_ ?_)
          · rfl
          · intro w hSw
            try dsimp only at hSw
            first | (go_simp; done) | (go_simp; with_reducible rfl)
        simp only [List.setIfInBounds_toArray, List.set_cons_zero, List.set_cons_succ]
        refine takeD (i := 14) (v := undef) 73 rfl rfl ?_ ?_ ?_ (fun _ _ _ h => h) (Or.inr (And.intro ?_ rfl)) (by assumption) ?_
        · kernel_rfl
        · kernel_rfl
        · kernel_rfl
        · rfl
        simp only [List.setIfInBounds_toArray, List.set_cons_zero, List.set_cons_succ]
        refine takeD (i := 15) (v := undef) 74 rfl rfl ?_ ?_ ?_ (fun _ _ _ h => h) (Or.inr (And.intro ?_ rfl)) (by assumption) ?_
        · kernel_rfl
        · kernel_rfl
        · kernel_rfl
        · rfl
        simp only [List.setIfInBounds_toArray, List.set_cons_zero, List.set_cons_succ]
        refine wpAnyH_ready (rs := [16]) (by kernel_rfl) (by simp) ?_
        refine AllReadyH.cons rfl (fun K hK => ?_) AllReadyH.nil
        go_simp
        refine hK.out _ _ ?_ (fun hHeld2 => ?_)
        · exact hHeld
        have hHeld := hHeld2
        clear hHeld2 hK K
        refine takeD (i := 17) (v := undef) 76 rfl rfl ?_ ?_ ?_ (fun _ _ _ h => h) (Or.inr (And.intro ?_ rfl)) (by assumption) ?_
        · kernel_rfl
        · kernel_rfl
        · kernel_rfl
        · rfl
        simp only [List.setIfInBounds_toArray, List.set_cons_zero, List.set_cons_succ]
        refine takeD (i := 18) (v := ?_) 77 rfl rfl ?_ ?_ ?_ (fun _ _ _ h => h) ?_ (by assumption) ?_
        rotate_left
        · kernel_rfl
        · kernel_rfl
        · kernel_rfl
        · refine Or.inl (And.intro ?_ ?_)
          · rfl
          · intro w hSw
            try dsimp only at hSw
            first | (go_simp; done) | (go_simp; with_reducible rfl)
        simp only [List.setIfInBounds_toArray, List.set_cons_zero, List.set_cons_succ]
        refine wpAnyH_done (by kernel_rfl) ?_ _
        refine NoPanic.normal ?_
        go_wp2_with fail
        go_ret2
        exact readR_no HO.out rfl ⟨hBr.drew⟩
      subst hts
      have hbt : (s != s) = false := by simp
      obtain ⟨mm, hmm⟩ : ∃ mm, mayW g (pairsN ws k) = mm := ⟨_, rfl⟩
      rw [hmm] at HMY
      have HO2 := Lib.hid (show readOk g ws = mm from by rw [readOk_eq HR.out (by rw [HE.out, HT.out, HSS.out]) HN.out, HSM.out, hmm]; rfl)
      have HKP := Lib.hid (show ∀ w3, Nw wr.drew w3 → (w3.cell? ⟨b, off + (1 + 2 * k), none⟩ = some (.int .u64 s) ∧ w3.cell? ⟨w.heap.size, 0, none⟩ = some (.int .i64 g.w) ∧ w3.cell? ⟨w.heap.size, 1, none⟩ = some (.int .i64 g.i) ∧ w3.cell? ⟨w.heap.size, 2, none⟩ = some (.int .i64 g.b) ∧ Below (w.heap.size + 1) WB w3) from fun w3 h3 => by
        have k1 : Below (w.heap.size + 1) WB w3 := hBB.drew.trans (h3.b.mono (by have := hBB.size; show w.heap.size + 1 ≤ wr.heap.size; omega))
        exact ⟨((HWD.out.b.trans (k1.mono (Nat.le_succ _))).cell (p := ⟨b, off + (1 + 2 * k), none⟩) HBN.out).trans HC.out, (k1.cell (p := ⟨w.heap.size, 0, none⟩) (Nat.lt_succ_self _)).trans BW.c0, (k1.cell (p := ⟨w.heap.size, 1, none⟩) (Nat.lt_succ_self _)).trans BW.c1, (k1.cell (p := ⟨w.heap.size, 2, none⟩) (Nat.lt_succ_self _)).trans BW.c2, k1⟩)
      clear hmm
      go_wp2_with fail
      refine wp_region_noPanic ?_
      refine wp_region_held_drew (S := (fun w' => w'.cell? ⟨b, off + (1 + 2 * k), none⟩ = some (.int .u64 s) ∧ w'.cell? ⟨w.heap.size, 0, none⟩ = some (.int .i64 g.w) ∧ w'.cell? ⟨w.heap.size, 1, none⟩ = some (.int .i64 g.i) ∧ w'.cell? ⟨w.heap.size, 2, none⟩ = some (.int .i64 g.b) ∧ Below (w.heap.size + 1) WB w')) (by kernel_rfl) ?_ (fun hHeld => ?_)
      · exact ⟨c1r, b0, b1, b2, hBB.drew⟩
      refine takeD (i := 0) (v := ?_) 59 rfl rfl ?_ ?_ ?_ (fun _ _ _ h => h) ?_ (by assumption) ?_
      rotate_left
      · kernel_rfl
      · kernel_rfl
      · kernel_rfl
      · refine Or.inl (And.intro ?_ ?_)
        · rfl
        · intro w hSw
          try dsimp only at hSw
          first | (go_simp; done) | (go_simp; with_reducible rfl)
      simp only [List.setIfInBounds_toArray, List.set_cons_zero, List.set_cons_succ]
      refine takeD (i := 1) (v := ?_) 60 rfl rfl ?_ ?_ ?_ (fun _ _ _ h => h) ?_ (by assumption) ?_
      rotate_left
      · kernel_rfl
      · kernel_rfl
      · kernel_rfl
      · refine Or.inl (And.intro ?_ ?_)
        · rfl
        · intro w hSw
          try dsimp only at hSw
          first | (go_simp; done) | (go_simp; with_reducible rfl)
      simp only [List.setIfInBounds_toArray, List.set_cons_zero, List.set_cons_succ]
      refine takeD (i := 2) (v := ?_) 61 rfl rfl ?_ ?_ ?_ (fun _ _ _ h => h) ?_ (by assumption) ?_
      rotate_left
      · kernel_rfl
      · kernel_rfl
      · kernel_rfl
      · refine Or.inl (And.intro ?_ ?_)
        · rfl
        · intro w hSw
          try dsimp only at hSw
          first | (go_simp; done) | (go_simp; with_reducible rfl)
      simp only [List.setIfInBounds_toArray, List.set_cons_zero, List.set_cons_succ]
      refine takeD (i := 3) (v := ?_) 62 rfl rfl ?_ ?_ ?_ (fun _ _ _ h => h) ?_ (by assumption) ?_
      rotate_left
      · kernel_rfl
      · kernel_rfl
      · kernel_rfl
      · refine Or.inl (And.intro ?_ ?_)
        · rfl
        · intro w hSw
          try dsimp only at hSw
          first | (go_simp; done) | (go_simp; with_reducible rfl)
      simp only [List.setIfInBounds_toArray, List.set_cons_zero, List.set_cons_succ]
      refine takeD (i := 4) (v := ?_) 63 rfl rfl ?_ ?_ ?_ (fun _ _ _ h => h) ?_ (by assumption) ?_
      rotate_left
      · kernel_rfl
      · kernel_rfl
      · kernel_rfl
      · refine Or.inl (And.intro ?_ ?_)
        · rfl
        · intro w hSw
          try dsimp only at hSw
          first | (go_simp; done) | (go_simp; with_reducible rfl)
      simp only [List.setIfInBounds_toArray, List.set_cons_zero, List.set_cons_succ]
      refine takeD (i := 5) (v := ?_) 64 rfl rfl ?_ ?_ ?_ (fun _ _ _ h => h) ?_ (by assumption) ?_
      rotate_left
      · kernel_rfl
      · kernel_rfl
      · kernel_rfl
      · refine Or.inl (And.intro ?_ ?_)
        · rfl
        · intro w hSw
          try dsimp only at hSw
          first | (go_simp; done) | (go_simp; with_reducible rfl)
      simp only [List.setIfInBounds_toArray, List.set_cons_zero, List.set_cons_succ]
      refine takeD (i := 6) (v := ?_) 65 rfl rfl ?_ ?_ ?_ (fun _ _ _ h => h) ?_ (by assumption) ?_
      rotate_left
      · kernel_rfl
      · kernel_rfl
      · kernel_rfl
      · refine Or.inl (And.intro ?_ ?_)
        · rfl
        · intro w hSw
          try dsimp only at hSw
          first | (go_simp; done) | (go_simp; with_reducible rfl)
      simp only [List.setIfInBounds_toArray, List.set_cons_zero, List.set_cons_succ]
      refine takeD (i := 7) (v := ?_) 66 rfl rfl ?_ ?_ ?_ (fun _ _ _ h => h) ?_ (by assumption) ?_
      rotate_left
      · kernel_rfl
      · kernel_rfl
      · kernel_rfl
      · refine Or.inl (And.intro ?_ ?_)
        · rfl
        · intro w hSw
          try dsimp only at hSw
          first | (go_simp; done) | (go_simp; with_reducible rfl)
      simp only [List.setIfInBounds_toArray, List.set_cons_zero, List.set_cons_succ]
      refine takeD (i := 8) (v := ?_) 67 rfl rfl ?_ ?_ ?_ (fun _ _ _ h => h) ?_ (by assumption) ?_
      rotate_left
      · kernel_rfl
      · kernel_rfl
      · kernel_rfl
      · refine Or.inl (And.intro ?_ ?_)
        · rfl
        · intro w hSw
          try dsimp only at hSw
          first | (go_simp; done) | (go_simp; with_reducible rfl)
      simp only [List.setIfInBounds_toArray, List.set_cons_zero, List.set_cons_succ]
      refine takeD (i := 9) (v := ?_) 68 rfl rfl ?_ ?_ ?_ (fun _ _ _ h => h) ?_ (by assumption) ?_
      rotate_left
      · kernel_rfl
      · kernel_rfl
      · kernel_rfl
      · refine Or.inl (And.intro ?_ ?_)
        · rfl
        · intro w hSw
          try dsimp only at hSw
          first | (go_simp; done) | (go_simp; with_reducible rfl)
      simp only [List.setIfInBounds_toArray, List.set_cons_zero, List.set_cons_succ]
      refine takeD (i := 10) (v := ?_) 69 rfl rfl ?_ ?_ ?_ (fun _ _ _ h => h) ?_ (by assumption) ?_
      rotate_left
      · kernel_rfl
      · kernel_rfl
      · kernel_rfl
      · refine Or.inl (And.intro ?_ ?_)
        · rfl
        · intro w hSw
          try dsimp only at hSw
          first | (go_simp; done) | (go_simp; with_reducible rfl)
      simp only [List.setIfInBounds_toArray, List.set_cons_zero, List.set_cons_succ]
      refine wpAnyH_ready (rs := [11]) (by kernel_rfl) (by simp) ?_
      refine AllReadyH.cons rfl (fun K hK => ?_) AllReadyH.nil
      go_simp
      go_wp2_with (go_at_call 99; refine (ref_of_len (some ⟨b, off, none⟩) (1 + 2 * k) cap (ws.take (1 + 2 * k)) HTL.out (by omega) n₀ _ HTI.out).mono ?_; rintro e wX ⟨rfl, rfl⟩; rw [HT.out])
      refine hK.out _ _ ?_ (fun hHeld2 => ?_)
      · exact hHeld
      have hHeld := hHeld2
      clear hHeld2 hK K
      refine takeD (i := 12) (v := ?_) 71 rfl rfl ?_ ?_ ?_ (fun _ _ _ h => h) ?_ (by assumption) ?_
      rotate_left
      · kernel_rfl
      · kernel_rfl
      · kernel_rfl
      · refine Or.inl (And.intro ?_ ?_)
        · rfl
        · intro w hSw
          try dsimp only at hSw
          first | (go_simp; done) | (go_simp; with_reducible rfl)
      simp only [List.setIfInBounds_toArray, List.set_cons_zero, List.set_cons_succ]
      refine takeD (i := 13) (v := ?_) 72 rfl rfl ?_ ?_ ?_ (fun _ _ _ h => h) ?_ (by assumption) ?_
      rotate_left
      · kernel_rfl
      · kernel_rfl
      · kernel_rfl
      · refine Or.inl (And.intro ?_ ?_)
        · rfl
        · intro w hSw
          try dsimp only at hSw
          first | (go_simp; done) | (go_simp; with_reducible rfl)
      simp only [List.setIfInBounds_toArray, List.set_cons_zero, List.set_cons_succ]
      refine takeD (i := 14) (v := ?_) 73 rfl rfl ?_ ?_ ?_ (fun _ _ _ h => h) ?_ (by assumption) ?_
      rotate_left
      · kernel_rfl
      · kernel_rfl
      · kernel_rfl
      · refine Or.inl (And.intro ?_ ?_)
        · rfl
        · intro w hSw
          try dsimp only at hSw
          first | (go_simp; done) | (go_simp; with_reducible rfl)
      simp only [List.setIfInBounds_toArray, List.set_cons_zero, List.set_cons_succ]
      refine takeD (i := 15) (v := ?_) 74 rfl rfl ?_ ?_ ?_ (fun _ _ _ h => h) ?_ (by assumption) ?_
      rotate_left
      · kernel_rfl
      · kernel_rfl
      · kernel_rfl
      · refine Or.inl (And.intro ?_ ?_)
        · rfl
        · intro w hSw
          try dsimp only at hSw
          first | (go_simp; done) | (go_simp; with_reducible rfl)
      simp only [List.setIfInBounds_toArray, List.set_cons_zero, List.set_cons_succ]
      refine wpAnyH_ready (rs := [16]) (by kernel_rfl) (by simp) ?_
      refine AllReadyH.cons rfl (fun K hK => ?_) AllReadyH.nil
      go_simp
      go_wp2_with (go_at_call 60; refine HMY.out.mono ?_; rintro e w3 ⟨rfl, h3⟩)
      refine hK.out _ _ ?_ (fun hHeld2 => ?_)
      · exact HKP.out _ h3
      have hHeld := hHeld2
      clear hHeld2 hK K
      refine takeD (i := 17) (v := ?_) 76 rfl rfl ?_ ?_ ?_ (fun _ _ _ h => h) ?_ (by assumption) ?_
      rotate_left
      · kernel_rfl
      · kernel_rfl
      · kernel_rfl
      · refine Or.inl (And.intro ?_ ?_)
        · rfl
        · intro w hSw
          try dsimp only at hSw
          first | (go_simp; done) | (go_simp; with_reducible rfl)
      simp only [List.setIfInBounds_toArray, List.set_cons_zero, List.set_cons_succ]
      refine takeD (i := 18) (v := ?_) 77 rfl rfl ?_ ?_ ?_ (fun _ _ _ h => h) ?_ (by assumption) ?_
      rotate_left
      · kernel_rfl
      · kernel_rfl
      · kernel_rfl
      · refine Or.inl (And.intro ?_ ?_)
        · rfl
        · intro w hSw
          try dsimp only at hSw
          first | (go_simp; done) | (go_simp; with_reducible rfl)
      simp only [List.setIfInBounds_toArray, List.set_cons_zero, List.set_cons_succ]
      refine wpAnyH_done (by kernel_rfl) ?_ _
      refine NoPanic.normal ?_
      have HB3 := Lib.hid (HWD.out.b.trans (hHeld.2.2.2.2.mono (Nat.le_succ _)))
      have HP3 := Lib.hid (HP.out.nw ((⟨(Below.refl _ wr).drew⟩ : Nw wr wr.drew).trans h3))
      clear hHeld
      cases mm with
      | false =>
        go_wp2_with fail
        go_ret2
        exact readR_no HO2.out rfl ⟨HB3.out⟩
      | true =>
        go_wp2_with fail
        go_ret2
        exact readR_yes HO2.out HN.out rfl hcv HP3.out ⟨HB3.out⟩ HFR.out

end Go.Proofs.YtkopfnldgnkkoaaGreat
