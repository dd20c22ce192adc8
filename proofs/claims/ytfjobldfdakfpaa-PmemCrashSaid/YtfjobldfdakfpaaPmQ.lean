/-
  THE WALK OF PmemPicks.
-/
import Derived.Test.YtfjobldfdakfpaaPmL
namespace Go.Proofs.Ytfjobldfdakfpaa
open Go.RowKit Go.Shelf
set_option linter.unusedVariables false

theorem OwnU.row {w w' : World} {zs : List Int} {e : Ending} (h : OwnU w zs e w') : ∃ a c, e = .returned (.slice a zs.length c) ∧ (∀ p, a = some p → w.heap.size ≤ p.block) ∧ Ints w'.heap.size .u64 w' a zs ∧ Nw w w' := by
  obtain ⟨v, rfl, ho, hn⟩ := h
  have ho2 := ho
  obtain ⟨a, c, rfl, _, hI⟩ := Ints.of_owns ho
  refine ⟨a, c, rfl, fun p hp => ?_, hI, hn⟩
  subst hp
  rcases ho2.2 with ⟨h1, _⟩ | ⟨g, cap, cur, hv, hg, _⟩
  · cases h1
  · simp only [Value.slice.injEq, Option.some.injEq] at hv
    rw [hv.1]; exact hg
theorem OwnU.row16 {w w' : World} {zs : List Int} {e : Ending} (hl : zs.length = 16) (h : OwnU w zs e w') : ∃ a c, e = .returned (.slice a 16 c) ∧ (∀ p, a = some p → w.heap.size ≤ p.block) ∧ Ints w'.heap.size .u64 w' a zs ∧ Nw w w' := by
  have := h.row; rwa [hl] at this
theorem Recs.mono {α : Type} {en : α → List Value} {nf n₀ n₁ : Nat} (hn : n₀ ≤ n₁) {W : World} {a : Option Addr} {ss : List α} : Recs en nf n₀ W a ss → Recs en nf n₁ W a ss
  | .inl e => .inl e
  | .inr ⟨b, off, e, hb, hc⟩ => .inr ⟨b, off, e, by omega, hc⟩
theorem info_u8 : (Try.prog.info? 5).map (fun i => (i.zero, i.size, i.bytes)) = some (some (.int .u8 0), 1, 1) := by kernel_rfl
theorem Ints.nw {n : Nat} {k : IntKind} {A B : World} (h : Nw A B) {a : Option Addr} {zs : List Int} (hI : Ints A.heap.size k A a zs) : Ints B.heap.size k B a zs := (hI.below h.b).mono h.b.size
theorem nw_drewN (w : World) (n : Nat) : Nw w (w.drewN n) := Nw.refl.drewN n
/-- Two rows of 16 words that are alike. -/
theorem same_yes (a1 a2 : Option Addr) (c1 c2 : Nat) (xs ys : List Int) (hx : xs.length = 16) (he : xs = ys) (w : World) (hI : Ints w.heap.size .u64 w a1 xs) (hJ : Ints w.heap.size .u64 w a2 ys) :
    Calls Try.prog 12 #[.slice a1 16 c1, .slice a2 16 c2] w (Yes true w) :=
  (same_len a1 16 c1 a2 c2 xs ys hx (he ▸ hx) (by decide) w.heap.size w hI hJ).mono fun e w' ⟨h1, n, h2⟩ => ⟨by rw [h1, decide_eq_true he], by rw [h2]; exact nw_drewN w n⟩
set_option maxRecDepth 100000 in
set_option maxHeartbeats 8000000 in
theorem walk_picks (a0 : Option Addr) (len0 cap0 : Nat) (l : List Pt) (hl : l.length = len0) (hok : ∀ x ∈ l, ptOk x) (al : Bool) (w : World) (hI : Recs ptC 3 w.heap.size w a0 l) :
    Calls Try.prog 4 #[.slice a0 len0 cap0, .bool al] w fun e w' => e = .returned (.bool true) ∧ Below w.heap.size w w' := by
  by_cases hbig : 60 < len0
  · clear hok hI hl
    go_enter Try.func4, Try.ntmps4
    go_wp2_with fail
    refine (works_any _).mono ?_
    rintro e w1 ⟨rfl, hN⟩
    go_wp2_with fail
    go_ret
    exact ⟨rfl, hN.b⟩
  obtain ⟨i0, hi, hz0, hz1, hz2⟩ := info_parts8 info_u8
  have hlen : len0 ≤ 60 := by omega
  go_enter Try.func4, Try.ntmps4
  go_wp2_with fail
  refine (filled_any a0 len0 cap0 l hl hlen hok w hI).mono ?_
  rintro e w1 ⟨d, b, rfl, hD, hN, hb, hd⟩
  have HI1 := Lib.hid ((hI.below hN.b).mono hN.b.size)
  have HN1 := Lib.hid hN
  have HD1 := Lib.hid hD
  have hbl := (cell_lt (hD.a.c0 0 (by omega))).1
  have hdl := (cell_lt hD.s).1
  dsimp only at hbl hdl
  have HL := Lib.hid hl
  have HOK := Lib.hid hok
  clear hI hN hD hl hok
  go_wp2_with fail
  refine (filled_any a0 len0 cap0 l HL.out hlen HOK.out w1 HI1.out).mono ?_
  rintro e w2 ⟨d2, b2, rfl, hD, hN, hb2, hd2⟩
  have HS := Lib.hid (sound_filled l)
  generalize filledL l = F at *
  have HN2 := Lib.hid hN
  have HD2 := Lib.hid (HD1.out.nw hN)
  have HO2 := Lib.hid hD
  have hs2 := hN.b.size
  clear hN hD HI1 HL HOK
  go_wp2_with fail
  refine (seen_any d2 b2 F w2 HO2.out).mono ?_
  intro e w3 h
  obtain ⟨az, cs, rfl, hap, hIs, hN⟩ := h.row16 (rowL_length _ _ _)
  have HIS3 := Lib.hid hIs
  have HAS : Hid (∀ p, az = some p → p.block ≠ b) := fun p hp => by have := hap p hp; omega
  have HO3 := Lib.hid (HO2.out.nw hN)
  have HD3 := Lib.hid (HD2.out.nw hN)
  have HN3 := Lib.hid (HN2.out.trans hN)
  have hs3 := hN.b.size
  clear h hIs hN hap
  go_wp2_with fail
  refine (sure_any d2 b2 F w3 HO3.out).mono ?_
  intro e w4 h
  obtain ⟨au, cu, rfl, hap, hIu, hN⟩ := h.row16 (rowL_length _ _ _)
  have HIU4 := Lib.hid hIu
  have HAU : Hid (∀ p, au = some p → p.block ≠ b) := fun p hp => by have := hap p hp; omega
  have HIS4 := Lib.hid (HIS3.out.nw (n := 0) hN)
  have HO4 := Lib.hid (HO3.out.nw hN)
  have HD4 := Lib.hid (HD3.out.nw hN)
  have HN4 := Lib.hid (HN3.out.trans hN)
  have hs4 := hN.b.size
  clear h hIu hN hap
  cases al
  · go_wp2_with fail
    refine (crash_any d b F w4.heap.size none 0 _ [] rfl (by first | exact Nat.zero_le _ | exact hcp) (by decide) (by decide) w4 (by omega) (fun p hp => by cases hp) (.inl rfl) (HD4.out.nw Nw.refl)).mono ?_
    rintro e w6 ⟨rfl, hD, hu⟩
    have HG := Lib.hid (crash_none HS.out)
    generalize gone (crashW []) 0 0 (lsL F) F = G at *
    have hsz := (show w4.heap.size ≤ w4.heap.size from Nw.refl.b.size)
    have HIS6 := Lib.hid ((ints_upx hu HAS.out (HIS4.out.nw (n := 0) Nw.refl)).mono hu.size)
    have HIU6 := Lib.hid ((ints_upx hu HAU.out (HIU4.out.nw (n := 0) Nw.refl)).mono hu.size)
    have HO6 := Lib.hid ((HO4.out.nw Nw.refl).up hu (by omega) (by omega))
    have HN6 := Lib.hid (((HN1.out.trans HN4.out).trans Nw.refl).up hu hb)
    have HD6 := Lib.hid hD
    clear hD hu
    go_wp2_with fail
    refine (sure_any d b G w6 HD6.out).mono ?_
    intro e w7 h
    obtain ⟨ax, cx, rfl, _, hIx, hN⟩ := h.row16 (rowL_length _ _ _)
    clear h
    have HIS7 := Lib.hid (HIS6.out.nw (n := 0) hN)
    have HIU7 := Lib.hid (HIU6.out.nw (n := 0) hN)
    have HO7 := Lib.hid (HO6.out.nw hN)
    have HD7 := Lib.hid (HD6.out.nw hN)
    have HN7 := Lib.hid (HN6.out.trans hN)
    have HIX := Lib.hid hIx
    clear hIx hN
    go_wp2_with fail
    refine (same_yes _ _ _ _ _ _ (rowL_length _ _ _) (rowL_congr (p := (·.sure)) (q := (·.sure)) fun k hk => (HG.out k hk).1) _ HIX.out HIU7.out).mono ?_
    rintro e w8 ⟨rfl, hN⟩
    have HIS8 := Lib.hid (HIS7.out.nw (n := 0) hN)
    have HIU8 := Lib.hid (HIU7.out.nw (n := 0) hN)
    have HO8 := Lib.hid (HO7.out.nw hN)
    have HD8 := Lib.hid (HD7.out.nw hN)
    have HN8 := Lib.hid (HN7.out.trans hN)
    clear hN HIX
    go_wp2_with fail
    refine (seen_any d b G w8 HD8.out).mono ?_
    intro e w9 h
    obtain ⟨ax, cx, rfl, _, hIx, hN⟩ := h.row16 (rowL_length _ _ _)
    clear h
    have HIS9 := Lib.hid (HIS8.out.nw (n := 0) hN)
    have HIU9 := Lib.hid (HIU8.out.nw (n := 0) hN)
    have HO9 := Lib.hid (HO8.out.nw hN)
    have HD9 := Lib.hid (HD8.out.nw hN)
    have HN9 := Lib.hid (HN8.out.trans hN)
    have HIX := Lib.hid hIx
    clear hIx hN
    go_wp2_with fail
    refine (same_yes _ _ _ _ _ _ (rowL_length _ _ _) (rowL_congr (p := (·.seen)) (q := (·.sure)) fun k hk => (HG.out k hk).2.1) _ HIX.out HIU9.out).mono ?_
    rintro e w10 ⟨rfl, hN⟩
    have HIS10 := Lib.hid (HIS9.out.nw (n := 0) hN)
    have HIU10 := Lib.hid (HIU9.out.nw (n := 0) hN)
    have HO10 := Lib.hid (HO9.out.nw hN)
    have HD10 := Lib.hid (HD9.out.nw hN)
    have HN10 := Lib.hid (HN9.out.trans hN)
    clear hN HIX
    go_wp2_with fail
    refine (loose_any d b G w10 HD10.out).mono ?_
    rw [lsL_nil fun k hk => (HG.out k hk).2.2]
    rintro e w11 ⟨rfl, hN⟩
    have HIS11 := Lib.hid (HIS10.out.nw (n := 0) hN)
    have HIU11 := Lib.hid (HIU10.out.nw (n := 0) hN)
    have HO11 := Lib.hid (HO10.out.nw hN)
    have HD11 := Lib.hid (HD10.out.nw hN)
    have HN11 := Lib.hid (HN10.out.trans hN)
    clear hN
    go_wp2_with fail
    refine (seen_any d2 b2 F w11 HO11.out).mono ?_
    intro e w12 h
    obtain ⟨ax, cx, rfl, _, hIx, hN⟩ := h.row16 (rowL_length _ _ _)
    clear h
    have HIS12 := Lib.hid (HIS11.out.nw (n := 0) hN)
    have HIU12 := Lib.hid (HIU11.out.nw (n := 0) hN)
    have HO12 := Lib.hid (HO11.out.nw hN)
    have HD12 := Lib.hid (HD11.out.nw hN)
    have HN12 := Lib.hid (HN11.out.trans hN)
    have HIX := Lib.hid hIx
    clear hIx hN
    go_wp2_with fail
    refine (same_yes _ _ _ _ _ _ (rowL_length _ _ _) (rfl) _ HIX.out HIS12.out).mono ?_
    rintro e w13 ⟨rfl, hN⟩
    have HIS13 := Lib.hid (HIS12.out.nw (n := 0) hN)
    have HIU13 := Lib.hid (HIU12.out.nw (n := 0) hN)
    have HO13 := Lib.hid (HO12.out.nw hN)
    have HD13 := Lib.hid (HD12.out.nw hN)
    have HN13 := Lib.hid (HN12.out.trans hN)
    clear hN HIX
    go_wp2_with fail
    refine (sure_any d2 b2 F w13 HO13.out).mono ?_
    intro e w14 h
    obtain ⟨ax, cx, rfl, _, hIx, hN⟩ := h.row16 (rowL_length _ _ _)
    clear h
    have HIS14 := Lib.hid (HIS13.out.nw (n := 0) hN)
    have HIU14 := Lib.hid (HIU13.out.nw (n := 0) hN)
    have HO14 := Lib.hid (HO13.out.nw hN)
    have HD14 := Lib.hid (HD13.out.nw hN)
    have HN14 := Lib.hid (HN13.out.trans hN)
    have HIX := Lib.hid hIx
    clear hIx hN
    go_wp2_with fail
    refine (same_yes _ _ _ _ _ _ (rowL_length _ _ _) (rfl) _ HIX.out HIU14.out).mono ?_
    rintro e w15 ⟨rfl, hN⟩
    have HIS15 := Lib.hid (HIS14.out.nw (n := 0) hN)
    have HIU15 := Lib.hid (HIU14.out.nw (n := 0) hN)
    have HO15 := Lib.hid (HO14.out.nw hN)
    have HD15 := Lib.hid (HD14.out.nw hN)
    have HN15 := Lib.hid (HN14.out.trans hN)
    clear hN HIX
    go_wp2_with fail
    refine (works_any _).mono ?_
    rintro e w16 ⟨rfl, hN⟩
    have HN16 := Lib.hid (HN15.out.trans hN)
    clear hN
    go_wp2_with fail
    go_ret
    exact ⟨rfl, HN16.out.b⟩
  · go_wp2_with fail
    go_loopw [13, 12] (fun i v wr => ∃ k : Nat, k ≤ 16 ∧ i = .int .i64 k ∧ Nw w4 wr ∧ wr.ownsRow w4.heap.size 5 1 v k ((List.replicate k (2 : Int)).map (.int .u8))) (fun i _ _ => 16 - (intOf i).toNat)
    case atStart => exact ⟨0, by omega, rfl, Nw.refl, rfl, .inl ⟨rfl, rfl⟩⟩
    case round =>
      obtain ⟨k, hk, rfl, hn, how⟩ := hrel
      have hs1 := hn.b.size
      by_cases hlt : k < 16
      · have HN := Lib.hid hn
        clear hn
        go_wp2_with (at_builtin; refine wpList_append_ints _ rfl (.tmp 45) (.tmp 46) 39 rfl w4.heap.size 5 i0 (.int .u8 0) 1 Try.underlying39 hi hz0 hz1 hz2 rfl _ _ _ rfl (how.alloc _) _ 1 1 .u8 [2] _ rfl rfl (Ints.one _ _ _ _) (by unfold maxLen; omega) (by omega) (by simp; omega) ?_; intro v3 w30 hown3 hgrow3; have hb3 : Below w4.heap.size w4 w30 := Below.grownRow (HN.out.b.alloc hs1 _) hgrow3 (by simp; omega) (how.alloc _) (Nat.le_refl _); clear hgrow3; rw [← List.map_append] at hown3)
        go_roundw
        case rel => exact ⟨k + 1, by omega, by go_num, ⟨hb3⟩, by rw [List.replicate_succ']; exact hown3⟩
        case measure => simp [intOf]; omega
      · obtain rfl : k = 16 := by omega
        have how2 := how
        obtain ⟨ap, cp, rfl, hlp, hIp⟩ := Ints.of_owns how
        have hcp := own_cap how
        have HAP : Hid (∀ p, ap = some p → p.block ≠ b) := fun p hp => by
          subst hp
          rcases how2.2 with ⟨h1, _⟩ | ⟨g, cap, cur, hv, hg, _⟩
          · cases h1
          · simp only [Value.slice.injEq, Option.some.injEq] at hv
            rw [hv.1]; show g ≠ b; omega
        have HIP := Lib.hid hIp
        have HNR := Lib.hid hn
        clear how how2 hIp hn
        go_wp2_with fail
        refine (crash_any d b F wr.heap.size ap 16 _ (List.replicate 16 2) rfl (by first | exact Nat.zero_le _ | exact hcp) (by decide) (by decide) wr (by omega) HAP.out HIP.out (HD4.out.nw HNR.out)).mono ?_
        rintro e w6 ⟨rfl, hD, hu⟩
        have HG := Lib.hid (crash_all HS.out)
        generalize gone (crashW (List.replicate 16 2)) 0 0 (lsL F) F = G at *
        have hsz := (show w4.heap.size ≤ wr.heap.size from HNR.out.b.size)
        have HIS6 := Lib.hid ((ints_upx hu HAS.out (HIS4.out.nw (n := 0) HNR.out)).mono hu.size)
        have HIU6 := Lib.hid ((ints_upx hu HAU.out (HIU4.out.nw (n := 0) HNR.out)).mono hu.size)
        have HO6 := Lib.hid ((HO4.out.nw HNR.out).up hu (by omega) (by omega))
        have HN6 := Lib.hid (((HN1.out.trans HN4.out).trans HNR.out).up hu hb)
        have HD6 := Lib.hid hD
        clear hD hu
        go_wp2_with fail
        refine (sure_any d b G w6 HD6.out).mono ?_
        intro e w7 h
        obtain ⟨ax, cx, rfl, _, hIx, hN⟩ := h.row16 (rowL_length _ _ _)
        clear h
        have HIS7 := Lib.hid (HIS6.out.nw (n := 0) hN)
        have HIU7 := Lib.hid (HIU6.out.nw (n := 0) hN)
        have HO7 := Lib.hid (HO6.out.nw hN)
        have HD7 := Lib.hid (HD6.out.nw hN)
        have HN7 := Lib.hid (HN6.out.trans hN)
        have HIX := Lib.hid hIx
        clear hIx hN
        go_wp2_with fail
        refine (same_yes _ _ _ _ _ _ (rowL_length _ _ _) (rowL_congr (p := (·.sure)) (q := (·.seen)) fun k hk => (HG.out k hk).1) _ HIX.out HIS7.out).mono ?_
        rintro e w8 ⟨rfl, hN⟩
        have HIS8 := Lib.hid (HIS7.out.nw (n := 0) hN)
        have HIU8 := Lib.hid (HIU7.out.nw (n := 0) hN)
        have HO8 := Lib.hid (HO7.out.nw hN)
        have HD8 := Lib.hid (HD7.out.nw hN)
        have HN8 := Lib.hid (HN7.out.trans hN)
        clear hN HIX
        go_wp2_with fail
        refine (seen_any d b G w8 HD8.out).mono ?_
        intro e w9 h
        obtain ⟨ax, cx, rfl, _, hIx, hN⟩ := h.row16 (rowL_length _ _ _)
        clear h
        have HIS9 := Lib.hid (HIS8.out.nw (n := 0) hN)
        have HIU9 := Lib.hid (HIU8.out.nw (n := 0) hN)
        have HO9 := Lib.hid (HO8.out.nw hN)
        have HD9 := Lib.hid (HD8.out.nw hN)
        have HN9 := Lib.hid (HN8.out.trans hN)
        have HIX := Lib.hid hIx
        clear hIx hN
        go_wp2_with fail
        refine (same_yes _ _ _ _ _ _ (rowL_length _ _ _) (rowL_congr (p := (·.seen)) (q := (·.seen)) fun k hk => (HG.out k hk).2.1) _ HIX.out HIS9.out).mono ?_
        rintro e w10 ⟨rfl, hN⟩
        have HIS10 := Lib.hid (HIS9.out.nw (n := 0) hN)
        have HIU10 := Lib.hid (HIU9.out.nw (n := 0) hN)
        have HO10 := Lib.hid (HO9.out.nw hN)
        have HD10 := Lib.hid (HD9.out.nw hN)
        have HN10 := Lib.hid (HN9.out.trans hN)
        clear hN HIX
        go_wp2_with fail
        refine (loose_any d b G w10 HD10.out).mono ?_
        rw [lsL_nil fun k hk => (HG.out k hk).2.2]
        rintro e w11 ⟨rfl, hN⟩
        have HIS11 := Lib.hid (HIS10.out.nw (n := 0) hN)
        have HIU11 := Lib.hid (HIU10.out.nw (n := 0) hN)
        have HO11 := Lib.hid (HO10.out.nw hN)
        have HD11 := Lib.hid (HD10.out.nw hN)
        have HN11 := Lib.hid (HN10.out.trans hN)
        clear hN
        go_wp2_with fail
        refine (seen_any d2 b2 F w11 HO11.out).mono ?_
        intro e w12 h
        obtain ⟨ax, cx, rfl, _, hIx, hN⟩ := h.row16 (rowL_length _ _ _)
        clear h
        have HIS12 := Lib.hid (HIS11.out.nw (n := 0) hN)
        have HIU12 := Lib.hid (HIU11.out.nw (n := 0) hN)
        have HO12 := Lib.hid (HO11.out.nw hN)
        have HD12 := Lib.hid (HD11.out.nw hN)
        have HN12 := Lib.hid (HN11.out.trans hN)
        have HIX := Lib.hid hIx
        clear hIx hN
        go_wp2_with fail
        refine (same_yes _ _ _ _ _ _ (rowL_length _ _ _) (rfl) _ HIX.out HIS12.out).mono ?_
        rintro e w13 ⟨rfl, hN⟩
        have HIS13 := Lib.hid (HIS12.out.nw (n := 0) hN)
        have HIU13 := Lib.hid (HIU12.out.nw (n := 0) hN)
        have HO13 := Lib.hid (HO12.out.nw hN)
        have HD13 := Lib.hid (HD12.out.nw hN)
        have HN13 := Lib.hid (HN12.out.trans hN)
        clear hN HIX
        go_wp2_with fail
        refine (sure_any d2 b2 F w13 HO13.out).mono ?_
        intro e w14 h
        obtain ⟨ax, cx, rfl, _, hIx, hN⟩ := h.row16 (rowL_length _ _ _)
        clear h
        have HIS14 := Lib.hid (HIS13.out.nw (n := 0) hN)
        have HIU14 := Lib.hid (HIU13.out.nw (n := 0) hN)
        have HO14 := Lib.hid (HO13.out.nw hN)
        have HD14 := Lib.hid (HD13.out.nw hN)
        have HN14 := Lib.hid (HN13.out.trans hN)
        have HIX := Lib.hid hIx
        clear hIx hN
        go_wp2_with fail
        refine (same_yes _ _ _ _ _ _ (rowL_length _ _ _) (rfl) _ HIX.out HIU14.out).mono ?_
        rintro e w15 ⟨rfl, hN⟩
        have HIS15 := Lib.hid (HIS14.out.nw (n := 0) hN)
        have HIU15 := Lib.hid (HIU14.out.nw (n := 0) hN)
        have HO15 := Lib.hid (HO14.out.nw hN)
        have HD15 := Lib.hid (HD14.out.nw hN)
        have HN15 := Lib.hid (HN14.out.trans hN)
        clear hN HIX
        go_wp2_with fail
        refine (works_any _).mono ?_
        rintro e w16 ⟨rfl, hN⟩
        have HN16 := Lib.hid (HN15.out.trans hN)
        clear hN
        go_wp2_with fail
        go_ret
        exact ⟨rfl, HN16.out.b⟩

end Go.Proofs.Ytfjobldfdakfpaa
