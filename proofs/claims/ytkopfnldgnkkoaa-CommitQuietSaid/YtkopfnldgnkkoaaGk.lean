/-
  THE WALK OF CommitQuiet.
-/
import Derived.Test.YtkopfnldgnkkoaaGr
import Derived.Test.YtkopfnldgnkkoaaOvN
namespace Go.Proofs.Ytkopfnldgnkkoaa
open Go.RowKit Go.Shelf
set_option linter.unusedVariables false

theorem wf_i64' {x : Int} (h0 : 0 ≤ x) (h1 : x ≤ 65536) : (Lit.int .i64 x).wf = true := by
  simp [Lit.wf, IntKind.min, IntKind.max, IntKind.bits, IntKind.signed]
  omega

set_option maxRecDepth 100000 in
set_option maxHeartbeats 16000000 in
theorem walk_quiet (a b : Nat) (ha : a ≤ 255) (hb : b ≤ 255) (al : Option Addr) (len cap : Nat) (l : List Pu) (w : World) (hl : l.length = len) (hlm : len ≤ 9223372036854775807) (hI : Recs puC 2 w.heap.size w al l) (hq : ∀ x ∈ l, puOk x) :
    Calls Try.prog 6 #[.int .u8 a, .int .u8 b, .slice al len cap] w fun e w' => e = .returned (.bool true) ∧ Below w.heap.size w w' := by
  have HIW := Lib.hid hI
  have HQ := Lib.hid hq
  have HL := Lib.hid hl
  clear hI hq hl
  obtain ⟨x1, hx1⟩ : ∃ x1, x1 = a % 4 := ⟨_, rfl⟩
  have hr4 : (a : Int).tmod 4 = (x1 : Int) := by rw [Int.tmod_eq_emod_of_nonneg (by omega), hx1]; omega
  have hx14 : x1 < 4 := by omega
  obtain ⟨X, hX⟩ : ∃ X : Nat, 1 + (x1 : Int) = (X : Int) := ⟨1 + x1, by omega⟩
  have HXX := Lib.hid hX
  have hX1 : 1 ≤ (X : Int) ∧ (X : Int) ≤ 4 := by omega
  clear hx1 hX
  go_enter Try.func6, Try.ntmps6
  by_cases h40 : (40 : Int) < (len : Int)
  · go_wp2_with fail
    refine (works_any w).mono ?_
    rintro e w2 ⟨rfl, h2⟩
    have HN2 := Lib.hid h2
    clear h2
    go_wp2_with fail
    go_ret
    exact ⟨rfl, HN2.out.b⟩
  have h40' : len ≤ 40 := by omega
  go_wp2_with fail
  simp only [HXX.out]
  obtain ⟨hXa, hXb⟩ := hX1
  have hm : mayP ⟨(X : Int), 2, 10⟩ := ⟨hXa, hXb, by dsimp only; omega, by dsimp only; omega, by dsimp only; omega, by dsimp only; omega⟩
  obtain ⟨N, hN⟩ : ∃ N : Nat, (N : Int) = 392 + 208 * (X : Int) := ⟨392 + 208 * X, by omega⟩
  have hN7 : atN ⟨(X : Int), 2, 10⟩ 7 = (N : Int) := by simp only [atN]; omega
  have HM := Lib.hid hm
  have HN7 := Lib.hid hN7
  have HNX := Lib.hid hN
  have HWV := Lib.hid (show wordsV ⟨(X : Int), 2, 10⟩ = (N : Int) from (if_pos hm).trans hN7)
  have hN8 : 8 ≤ N ∧ N ≤ 65536 ∧ N % 8 = 0 ∧ (N : Int) ≤ 65536 := by omega
  have HNB := Lib.hid hN8
  have hn1 := (Nw.refl (w := w)).alloc (.cells #[.int .i64 (X : Int), .int .i64 2, .int .i64 10] 25)
  have hbb := Blk.new w #[.int .i64 (X : Int), .int .i64 2, .int .i64 10] 25
  generalize w.alloc (.cells #[.int .i64 (X : Int), .int .i64 2, .int .i64 10] 25) = w1 at *
  generalize hbx : w.heap.size = bx at hbb ⊢
  have HBX := Lib.hid hbx
  have HN1 := Lib.hid hn1
  have HBB := Lib.hid hbb
  have HFM := Lib.hid (format_yes ⟨(X : Int), 2, 10⟩ hm (At.refl (w := w1)))
  unfold FmtYes gV at HFM
  rw [show (atN ⟨(X : Int), 2, 10⟩ 7).toNat = N by omega] at HFM
  have HLF := Lib.hid (show (fmtL ⟨(X : Int), 2, 10⟩).length = N by rw [fmtL_length]; omega)
  clear hbx hn1 hbb hm hN hN7 hN8
  refine HFM.out.mono ?_
  rintro e w2 ⟨bo, rfl, hr, hbo, h2⟩
  have HO2 := Lib.hid hr.out
  have HB2 := Lib.hid (HBB.out.nw h2.nw)
  have HN2 := Lib.hid (HN1.out.trans h2.nw)
  clear hr hbo h2 HFM HBB HN1
  have HDV := Lib.hid (device_any (some ⟨bo, 0, none⟩) N N w2.heap.size (fmtL ⟨(X : Int), 2, 10⟩) HLF.out HNB.out.1 HNB.out.2.1 HNB.out.2.2.1 w2 (Nat.le_refl _) HO2.out.ints)
  go_wp2_with fail
  (with_reducible refine HDV.out.mono ?_)
  rintro e w3 ⟨d, db, rd, rb, rfl, hD, hR, hn3, hb3, hd3, -, -⟩
  have HD3 := Lib.hid hD
  have HN3 := Lib.hid (HN2.out.trans hn3)
  have HB3 := Lib.hid (HB2.out.nw hn3)
  have HDB := Lib.hid (show w.heap.size ≤ db from Nat.le_trans HN2.out.b.size hb3)
  have HO3 := Lib.hid (HO2.out.nw hn3)
  clear hD hR hn3 hb3 hd3 HDV HB2 HN2 HO2
  obtain ⟨m, hm1, hm2⟩ : ∃ m : Nat, (b : Int).tmod (X : Int) = (m : Int) ∧ (m : Int) < (X : Int) := by
    refine ⟨((b : Int) % (X : Int)).toNat, ?_, ?_⟩
    · rw [Int.tmod_eq_emod_of_nonneg (by omega)]
      have := Int.emod_nonneg (b : Int) (b := (X : Int)) (by omega)
      omega
    · have := Int.emod_nonneg (b : Int) (b := (X : Int)) (by omega)
      have := Int.emod_lt_of_pos (b : Int) (b := (X : Int)) (by omega)
      omega
  have c0 : w3.cell? ⟨bx, 0, none⟩ = some (.int .i64 (X : Int)) := HB3.out.cell rfl
  have c1 : w3.cell? ⟨bx, 1, none⟩ = some (.int .i64 2) := HB3.out.cell rfl
  have c2 : w3.cell? ⟨bx, 2, none⟩ = some (.int .i64 10) := HB3.out.cell rfl
  have hX0 : ¬ (X : Int) = 0 := by omega
  obtain ⟨base, hbase⟩ : ∃ base, fmtL ⟨(X : Int), 2, 10⟩ = base := ⟨_, rfl⟩
  have HBZ := Lib.hid (show ∀ k, inAr ⟨(X : Int), 2, 10⟩ k → fnL base k = 0 from by rw [← hbase]; exact fmtL_area HM.out)
  have HBU := Lib.hid (show ∀ x ∈ base, u64 x from by rw [← hbase]; exact fmtL_u64 HM.out)
  rw [hbase] at HD3 HO3 HLF
  clear hbase
  have HNW := Lib.hid (new_yes ⟨(X : Int), 2, 10⟩ (m : Int) HM.out (by omega) hm2 d db N (filD base) (by rw [HWV.out]; omega) w3 HD3.out)
  unfold NewRun gV at HNW
  go_wp2_with fail
  (with_reducible refine HNW.out.mono ?_)
  rintro e w4 ⟨r, rfl, hr4, hn4, hr⟩
  have HR4 := Lib.hid hr4
  have HD4 := Lib.hid (HD3.out.nw hn4)
  have HO4 := Lib.hid (HO3.out.nw hn4)
  have HN4 := Lib.hid (HN3.out.trans hn4)
  have HB4 := Lib.hid (HB3.out.nw hn4)
  have HRR := Lib.hid (show w.heap.size ≤ r from Nat.le_trans HN3.out.b.size hr)
  clear hr4 hn4 hr HNW HD3 HN3 HB3 HO3 c0 c1 c2
  have c0 : w4.cell? ⟨bx, 0, none⟩ = some (.int .i64 (X : Int)) := HB4.out.cell rfl
  have c1 : w4.cell? ⟨bx, 1, none⟩ = some (.int .i64 2) := HB4.out.cell rfl
  have c2 : w4.cell? ⟨bx, 2, none⟩ = some (.int .i64 10) := HB4.out.cell rfl
  have HWR := Lib.hid (writes_any ⟨(X : Int), 2, 10⟩ m HM.out (by dsimp only; omega) al len cap w.heap.size l HL.out (by omega) w4 HN4.out.b.size (HIW.out.below HN4.out.b) HQ.out)
  have hin := wrL_in (b := atN ⟨(X : Int), 2, 10⟩ 6 + 8 * (1 + 2 * (m : Int))) HQ.out
  have hol := wrL_len (atN ⟨(X : Int), 2, 10⟩ 6 + 8 * (1 + 2 * (m : Int))) l
  rw [HL.out] at hol
  obtain ⟨o, ho⟩ : ∃ o, wrL (atN ⟨(X : Int), 2, 10⟩ 6 + 8 * (1 + 2 * (m : Int))) l = o := ⟨_, rfl⟩
  rw [ho] at HWR hin hol
  have hat6 : atN ⟨(X : Int), 2, 10⟩ 6 = (N : Int) - 80 := by have := HNX.out; simp only [atN]; omega
  have HMAY := Lib.hid (inB_may HM.out hin (by omega) (by omega) (by rw [HN7.out]; omega))
  have HOI := Lib.hid (show ∀ x ∈ o, 0 ≤ x.1 ∧ x.1 < (N : Int) ∧ u64 x.2 from fun x hx => by
    have h1 := hin.i x hx
    have h2 := HNX.out
    exact ⟨by omega, by omega, h1.2.2⟩)
  have HOO := Lib.hid (show ∀ x ∈ o, ¬ inAr ⟨(X : Int), 2, 10⟩ x.1.toNat from fun x hx hk => by
    have h1 := hin.i x hx
    have h2 := HNX.out
    have h3 := hk.2
    dsimp only at h3
    omega)
  have HL2 := Lib.hid (show (linesOf (lineL o)).length ≤ 2 from lines_two (b := 39 + 26 * X + 1 + 2 * m) (fun x hx => by have h1 := hin.i x hx; have h2 := HNX.out; omega))
  obtain ⟨n, hn⟩ : ∃ n, o.length = n := ⟨_, rfl⟩
  have HOL := Lib.hid hn
  unfold WritesR gV at HWR
  rw [hn] at HWR hol
  have hn40 : (n : Int) ≤ 40 := by omega
  clear ho hin hn hat6
  go_wp2_with fail
  (with_reducible refine HWR.out.mono ?_)
  rintro e w5 ⟨oa, oc, rfl, hoc, hP, hn5, hof, hsh⟩
  have HP5 := Lib.hid hP
  have HOF := Lib.hid hof
  have HSH := Lib.hid hsh
  have HR5 := Lib.hid (HR4.out.nw hn5)
  have HD5 := Lib.hid (HD4.out.nw hn5)
  have HN45 := Lib.hid hn5
  have HN5 := Lib.hid (HN4.out.trans hn5)
  have HB5 := Lib.hid (HB4.out.nw hn5)
  have HRL4 := Lib.hid (show r < w4.heap.size from HR4.out.tag.lt)
  clear hP hof hsh hn5 HWR HR4 HD4 HN4 HB4 c0 c1 c2
  have HO5 := Lib.hid (HO4.out.nw HN45.out)
  obtain ⟨A, hA⟩ : ∃ A : Nat, A = 264 + 208 * m := ⟨_, rfl⟩
  have hAi : (264 + 208 * (m : Int)) = (A : Int) := by omega
  have hAN : A + 208 ≤ N := by have := HNX.out; omega
  have HOKW := Lib.hid (show okW o from fun x hx => by have h1 := HOI.out x hx; have h2 := HNB.out.2.2.2; exact ⟨by omega, h1.2.2⟩)
  have HOVK := Lib.hid (show ovOk ⟨(X : Int), 2, 10⟩ base.length from ⟨HM.out, by rw [HLF.out, HWV.out]; exact Int.le_refl _⟩)
  have HQO := Lib.hid (fun i => quiet_over (g := ⟨(X : Int), 2, 10⟩) HOVK.out HBZ.out hm2 HMAY.out HOKW.out HOO.out i)
  have HQA := Lib.hid (quiet_all (g := ⟨(X : Int), 2, 10⟩) HOVK.out HBZ.out hm2 HMAY.out HOKW.out HOO.out)
  have HRE := Lib.hid (fun k hk hA => run_else (base := base) (o := o) A k (by rw [HOL.out]; omega) hk hA)
  have HRA := Lib.hid (run_area (base := base) (o := o) A (by rw [HLF.out]; omega))
  have HDO := Lib.hid (does_any (some ⟨bo, 0, none⟩) N N w5.heap.size base HLF.out (by omega) (by have := HNB.out.2.1; omega) oa n oc w5.heap.size o HOL.out (by omega) (fun x hx => by have h1 := HOI.out x hx; exact ⟨h1.1, h1.2.1⟩) w5 (Nat.le_refl _) HO5.out.ints (Nat.le_refl _) HP5.out)
  have HDNL := Lib.hid (show (putsL base o).length = N by rw [putsL_len]; exact HLF.out)
  have HPU := Lib.hid (fun (P : List Wr) (h : ∀ x ∈ P, u64 x.2) => putsL_u64 (l := P) HBU.out h)
  have HRU := Lib.hid (runW_u64 HMAY.out HOKW.out (A : Int))
  rw [hAi] at HQO HQA
  unfold DoesR at HDO
  rw [HDNL.out] at HDO
  have HST0 := Lib.hid (fun j => stores_take (beginL (A : Int) o) j)
  have HSS := Lib.hid (fun (L' : List St) => seen_row base N HLF.out L')
  have hlen := begin_len (33 + 26 * m) o (by rw [HOL.out]; omega) (by omega)
  have hbs := run_stores (A : Int) o
  obtain ⟨hri, hp6⟩ := begin_rise (A : Int) o
  have hok := begin_ok (N := N) (area := (A : Int)) (by omega) (by omega) (by omega) (l := o) (by rw [HOL.out]; omega) (fun x hx => by have := HOI.out x hx; have := HNB.out.2.1; omega)
  have HCL := Lib.hid (begin_clean N (A : Int) (by omega) (by omega) o (by rw [HOL.out]; omega) (fun x hx => by have := HOI.out x hx; have := HNB.out.2.1; omega) (filD base) (filD_clean base N))
  rw [want_sum, HOL.out, show 8 * ((33 + 26 * m : Nat) : Int) = (A : Int) by omega] at hlen
  have HBG : Hid (∀ W, Nw w5 W → RunAt W r d ⟨(X : Int), 2, 10⟩ (A : Int) [] none → Calls Try.prog 13 #[.pointer (some ⟨r, 0, none⟩), .slice oa n oc] W (RunG W r d ⟨(X : Int), 2, 10⟩ (A : Int) none (beginL (A : Int) o) (.int .i64 0))) := fun W hW hRW =>
    begin_yes r d ⟨(X : Int), 2, 10⟩ (A : Int) none (by omega) (by omega) oa n oc W.heap.size o HOL.out HSH.out (fun x hx => by have h1 := HOI.out x hx; exact ⟨wf_i64' h1.1 (by have := HNB.out.2.2.2; omega), h1.2.2⟩) HMAY.out W (Nat.le_refl _)
            (pairs_upo HP5.out (O := fun _ => False) (.of_nw hW) (fun _ _ h => h) |>.mono hW.b.size) hRW (fun p hp hx => by
              have h1 := HOF.out p hp
              have h2 := HRL4.out
              rcases hx with hx | ⟨p', hp', _⟩
              · omega
              · cases hp')
  have hl2 := HL2.out
  obtain ⟨L, hL⟩ : ∃ L, beginL (A : Int) o = L := ⟨_, rfl⟩
  rw [hL] at HST0 hlen hbs hri hp6 hok HCL HBG
  rw [hbs] at HST0
  obtain ⟨T, hT⟩ : ∃ T, L.length = T := ⟨_, rfl⟩
  have HLT := Lib.hid hT
  have hT1 : T ≤ 500 := by omega
  have HBS := Lib.hid hbs
  have HRI := Lib.hid hri
  have HP6 := Lib.hid hp6
  have HOKS := Lib.hid hok
  obtain ⟨dn, hdn⟩ : ∃ dn, putsL base o = dn := ⟨_, rfl⟩
  rw [hdn] at HQO HQA HRE HDO HDNL
  have HR5' := HR5
  rw [hAi] at HR5'
  clear hlen hbs hri hp6 hok hL hl2 hT hdn HR5 HIW HQ HL HOI HL2 HOO HOKW HMAY
  go_wp2_with fail
  (with_reducible refine HDO.out.mono ?_)
  rintro e w6 ⟨nb, nc, rfl, hnc, hON, hn6, hnb⟩
  have HDN6 := Lib.hid hON
  have HR6 := Lib.hid (HR5'.out.nw hn6)
  have HD6 := Lib.hid (HD5.out.nw hn6)
  have HO6 := Lib.hid (HO5.out.nw hn6)
  have HN6 := Lib.hid (HN5.out.trans hn6)
  have HB6 := Lib.hid (HB5.out.nw hn6)
  have HBG6 := Lib.hid (HBG.out w6 hn6 HR6.out)
  unfold RunG at HBG6
  clear hON hn6 hnb HDO HR5' HD5 HO5 HN5 HB5 HBG HN45 HO4 HP5 HOF HSH HRL4 HOL
  go_wp2_with fail
  (with_reducible refine HBG6.out.mono ?_)
  rintro e w7 ⟨rfl, a7, hm7⟩
  have HR7 := Lib.hid hm7.rr
  have HNd := Lib.hid (show (∀ k t, Tag w6 k t → t ≠ 79 → t ≠ 94 → ¬ OwnR9 r none k) from fun k t hk h1 h2 => HR6.out.not_own hk h1 h2)
  have HD7 := Lib.hid (HD6.out.upo hm7.u (HNd.out _ _ HD6.out.k.tag (by decide) (by decide)) (HNd.out _ _ HD6.out.a.ty (by decide) (by decide)))
  have HB7 := Lib.hid (hm7.u.blk HB6.out (HNd.out _ _ HB6.out.tag (by decide) (by decide)))
  have HO7 := Lib.hid (HO6.out.upo hm7.u (HNd.out _ _ HO6.out.ty (by decide) (by decide)))
  have HDN7 := Lib.hid (HDN6.out.upo hm7.u (HNd.out _ _ HDN6.out.ty (by decide) (by decide)))
  have HN7 := Lib.hid (show Nw w w7 from UpO.nw_of HN6.out hm7.u (fun x hx => by
    rcases hx with hx | ⟨p', hp', _⟩
    · rw [hx]; exact HRR.out
    · cases hp'))
  clear hm7 HNd HR6 HD6 HB6 HO6 HDN6 HN6 HBG6
  go_wp2_with fail
  go_loopw [17] (fun i wq => ∃ (k : Nat) (a' : Option Addr), k ≤ T ∧ i = .int .i64 k ∧ RunAt wq r d ⟨(X : Int), 2, 10⟩ (A : Int) (L.drop k) a' ∧ DevAt wq d db N (doAll (L.take k) (filD base)) ∧ Blk wq bx #[.int .i64 (X : Int), .int .i64 2, .int .i64 10] 25 ∧ OutAt wq bo base ∧ OutAt wq nb dn ∧ Nw w wq) (fun i _ => T - (intOf i).toNat)
  case atStart => exact ⟨0, a7, Nat.zero_le _, rfl, HR7.out, HD7.out, HB7.out, HO7.out, HDN7.out, HN7.out⟩
  case round =>
    clear HR7 HD7 HB7 HO7 HDN7 HN7
    obtain ⟨k, a', hk, rfl, hR, hD, hB, hO, hDN, hN⟩ := hrel
    have HR := Lib.hid hR
    have HD := Lib.hid hD
    have HB := Lib.hid hB
    have HO := Lib.hid hO
    have HDN := Lib.hid hDN
    have HN := Lib.hid hN
    clear hR hD hB hO hDN hN
    obtain ⟨e', he'⟩ : ∃ e', T - k = e' := ⟨_, rfl⟩
    have HLE := Lib.hid (left_any r d ⟨(X : Int), 2, 10⟩ (A : Int) (L.drop k) a' (by rw [List.length_drop, HLT.out]; omega) wr HR.out)
    rw [show (L.drop k).length = e' by rw [List.length_drop, HLT.out]; omega] at HLE
    have hk1 : (k : Int) < 1000 := by omega
    by_cases hkT : k < T
    · have he0 : (0 : Int) < (e' : Int) := by omega
      have hkL : k < L.length := by rw [HLT.out]; exact hkT
      obtain ⟨i, hi⟩ := HST0.out k
      have hS := HSS.out (L.take k)
      rw [hi] at hS
      have hq := HQO.out i
      have hsu : ∀ x ∈ putsL base ((runW (A : Int) o).take i), Go.Proofs.Ytkopfnldgnkkoaa.u64 x := HPU.out _ (fun x hx => HRU.out x (List.mem_of_mem_take hx))
      rw [← hS] at hq hsu
      obtain ⟨S, hSe⟩ : ∃ S, rowL (·.seen) (doAll (L.take k) (filD base)) N = S := ⟨_, rfl⟩
      have hSl : S.length = N := by rw [← hSe]; exact rowL_length _ _ _
      have HSE : Hid (∀ W, Nw wr W → Calls Try.prog 26 #[.pointer (some ⟨d, 0, none⟩)] W fun e w' => ∃ sa sc, e = .returned (.slice sa N sc) ∧ Ints w'.heap.size .u64 w' sa S ∧ Nw W w' ∧ N ≤ sc) := fun W hW =>
        (seen_any d db N (doAll (L.take k) (filD base)) W (HD.out.nw hW)).mono fun e w' h => by
          obtain ⟨sa, sc, he, h1, h2, h3⟩ := h.slice
          rw [hSe] at he h1 h3
          rw [hSl] at he h3
          exact ⟨sa, sc, he, h1, h2, h3⟩
      rw [hSe] at hq hsu
      obtain ⟨ov, hov⟩ : ∃ ov, overL ⟨(X : Int), 2, 10⟩ S = ov := ⟨_, rfl⟩
      have hovl : ov.length = N := by rw [← hov, overL_len' (by rw [hSl, ← HLF.out]; exact HOVK.out)]; exact hSl
      have HOV : Hid (∀ W sa sc, Ints W.heap.size .u64 W sa S → N ≤ sc → Calls Try.prog 20 #[.agg #[.int .i64 (X : Int), .int .i64 2, .int .i64 10], .slice sa N sc] W fun e w' => ∃ va vc, e = .returned (.slice va N vc) ∧ Ints w'.heap.size .u64 w' va ov ∧ Nw W w' ∧ N ≤ vc) := fun W sa sc hI hsc =>
        (over_any ⟨(X : Int), 2, 10⟩ sa N sc W.heap.size S hSl hsc (by have := HNB.out.2.1; omega) hsu W (Nat.le_refl _) hI).mono fun e w' h => by
          obtain ⟨va, vc, he, h1, h2, h3, _⟩ := h
          rw [hov] at he h1 h2
          rw [hovl] at he h1
          exact ⟨va, vc, he, h2, h3, h1⟩
      rw [hov] at hq
      have HQ := Lib.hid hq
      have HOL := Lib.hid hovl
      have HK9 : Hid (∀ W, Nw wr W → W.cell? ⟨bx, 0, none⟩ = some (.int .i64 (X : Int)) ∧ W.cell? ⟨bx, 1, none⟩ = some (.int .i64 2) ∧ W.cell? ⟨bx, 2, none⟩ = some (.int .i64 10)) :=
        fun W q => ⟨(HB.out.nw q).cell rfl, (HB.out.nw q).cell rfl, (HB.out.nw q).cell rfl⟩
      clear hi hS hSe hSl hsu hov hovl hq
      go_wp2_with fail
      (with_reducible refine HLE.out.mono ?_)
      rintro e1 w8 ⟨rfl, rfl⟩
      obtain ⟨c0, c1, c2⟩ := HK9.out wr Nw.refl
      go_wp2_with fail
      go_region_held3 (fun w' => w'.cell? ⟨bx, 0, none⟩ = some (.int .i64 (X : Int)) ∧ w'.cell? ⟨bx, 1, none⟩ = some (.int .i64 2) ∧ w'.cell? ⟨bx, 2, none⟩ = some (.int .i64 10))
        (first | (exact HK9.out _ hk9) | (exact HK9.out _ Nw.refl.drew))
        ((first
          | (go_at_call 26; (with_reducible refine (HSE.out _ Nw.refl.drew).mono ?_); rintro e w9 ⟨sa, sc, rfl, hsI, hsN, hsc⟩; have hk9 := (Nw.refl (w := wr)).drew.trans hsN)
          | (go_at_call 20; (with_reducible refine (HOV.out _ sa sc hsI hsc).mono ?_); rintro e w10 ⟨va, vc, rfl, hvI, hvN, hvc⟩; have hk9 := hk9.trans hvN)))
      have HVI := Lib.hid hvI
      have HK := Lib.hid hk9
      have hN8 : N * 8 ≤ 140737488351232 := by have := HNB.out.2.1; omega
      have HS1 := Lib.hid (same_len va N vc (some ⟨bo, 0, none⟩) N ov base HOL.out HLF.out hN8 _ w10 HVI.out (HO.out.nw hk9).ints)
      clear hvI hk9 hsI hsN hvN HSE HOV HK9 c0 c1 c2 HLE
      go_wp2_with fail
      (with_reducible refine HS1.out.mono ?_)
      rintro e1 w11 ⟨rfl, n1, hn1⟩
      have HN11 := Lib.hid (show Nw w10 w11 by rw [hn1]; exact nw_drewN w10 n1)
      clear hn1 HS1
      by_cases hob : ov = base
      · rw [show decide (ov = base) = true by rw [decide_eq_true_eq]; exact hob]
        clear hob
        have hk9 := HK.out.trans HN11.out
        have HRa := Lib.hid (HR.out.nw hk9)
        have HDa := Lib.hid (HD.out.nw hk9)
        have HBa := Lib.hid (HB.out.nw hk9)
        have HOa := Lib.hid (HO.out.nw hk9)
        have HDNa := Lib.hid (HDN.out.nw hk9)
        have HNa := Lib.hid (HN.out.trans hk9)
        clear HR HD HB HO HDN HN
        clear hk9 HVI HK HN11
        have HSTP := Lib.hid (step_any r d db N ⟨(X : Int), 2, 10⟩ (A : Int) L[k] (L.drop (k + 1)) a' (by rw [List.length_drop, HLT.out]; omega) (doAll (L.take k) (filD base)) (HOKS.out _ (List.getElem_mem hkL)) w11 HDa.out (by rw [← List.drop_eq_getElem_cons hkL]; exact HRa.out))
        unfold StepG at HSTP
        rw [← doAll_take_succ hkL] at HSTP
        generalize (L[k]).p = pp at HSTP
        go_wp2_with fail
        (with_reducible refine HSTP.out.mono ?_)
        rintro e3 w13 ⟨rfl, a9, hr9, hd9, hu9, -⟩
        have hnb : ∀ x t, Tag w11 x t → t ≠ 110 → t ≠ 79 → ¬ (x = db ∨ x = r) := fun x t hx h1 h2 h => by
          rcases h with h | h
          · exact hx.ne HDa.out.a.ty h1 h
          · exact hx.ne HRa.out.tag h2 h
        have HR13 := Lib.hid hr9
        have HD13 := Lib.hid hd9
        have HB13 := Lib.hid (hu9.blk HBa.out (hnb _ _ HBa.out.tag (by decide) (by decide)))
        have HO13 := Lib.hid (HOa.out.upo hu9 (hnb _ _ HOa.out.ty (by decide) (by decide)))
        have HDN13 := Lib.hid (HDNa.out.upo hu9 (hnb _ _ HDNa.out.ty (by decide) (by decide)))
        have HN13 := Lib.hid (show Nw w w13 from UpO.nw_of HNa.out hu9 (fun x hx => by
          rcases hx with rfl | rfl
          · exact HDB.out
          · exact HRR.out))
        clear hr9 hd9 hu9 hnb HSTP HRa HDa HBa HOa HDNa HNa
        go_wp2_with fail
        go_roundw
        case rel => exact ⟨k + 1, a9, by omega, by go_num, HR13.out, HD13.out, HB13.out, HO13.out, HDN13.out, HN13.out⟩
        case measure => simp [intOf]; omega
      · have hod : ov = dn := HQ.out.resolve_left hob
        rw [show decide (ov = base) = false by rw [decide_eq_false_iff_not]; exact hob]
        have HS2 := Lib.hid (same_len va N vc (some ⟨nb, 0, none⟩) nc ov dn HOL.out HDNL.out hN8 _ w11 (Ints.nw (n := 0) HN11.out HVI.out) (HDN.out.nw (HK.out.trans HN11.out)).ints)
        rw [show decide (ov = dn) = true by rw [decide_eq_true_eq]; exact hod] at HS2
        clear hob hod
        go_wp2_with fail
        (with_reducible refine HS2.out.mono ?_)
        rintro e2 w12 ⟨rfl, n2, hn2⟩
        have hk9 := (HK.out.trans HN11.out).trans (show Nw w11 w12 by rw [hn2]; exact nw_drewN w11 n2)
        have HRa := Lib.hid (HR.out.nw hk9)
        have HDa := Lib.hid (HD.out.nw hk9)
        have HBa := Lib.hid (HB.out.nw hk9)
        have HOa := Lib.hid (HO.out.nw hk9)
        have HDNa := Lib.hid (HDN.out.nw hk9)
        have HNa := Lib.hid (HN.out.trans hk9)
        clear HR HD HB HO HDN HN
        clear hk9 HVI HK HN11 hn2 HS2
        have HSTP := Lib.hid (step_any r d db N ⟨(X : Int), 2, 10⟩ (A : Int) L[k] (L.drop (k + 1)) a' (by rw [List.length_drop, HLT.out]; omega) (doAll (L.take k) (filD base)) (HOKS.out _ (List.getElem_mem hkL)) w12 HDa.out (by rw [← List.drop_eq_getElem_cons hkL]; exact HRa.out))
        unfold StepG at HSTP
        rw [← doAll_take_succ hkL] at HSTP
        generalize (L[k]).p = pp at HSTP
        go_wp2_with fail
        (with_reducible refine HSTP.out.mono ?_)
        rintro e3 w13 ⟨rfl, a9, hr9, hd9, hu9, -⟩
        have hnb : ∀ x t, Tag w12 x t → t ≠ 110 → t ≠ 79 → ¬ (x = db ∨ x = r) := fun x t hx h1 h2 h => by
          rcases h with h | h
          · exact hx.ne HDa.out.a.ty h1 h
          · exact hx.ne HRa.out.tag h2 h
        have HR13 := Lib.hid hr9
        have HD13 := Lib.hid hd9
        have HB13 := Lib.hid (hu9.blk HBa.out (hnb _ _ HBa.out.tag (by decide) (by decide)))
        have HO13 := Lib.hid (HOa.out.upo hu9 (hnb _ _ HOa.out.ty (by decide) (by decide)))
        have HDN13 := Lib.hid (HDNa.out.upo hu9 (hnb _ _ HDNa.out.ty (by decide) (by decide)))
        have HN13 := Lib.hid (show Nw w w13 from UpO.nw_of HNa.out hu9 (fun x hx => by
          rcases hx with rfl | rfl
          · exact HDB.out
          · exact HRR.out))
        clear hr9 hd9 hu9 hnb HSTP HRa HDa HBa HOa HDNa HNa
        go_wp2_with fail
        go_roundw
        case rel => exact ⟨k + 1, a9, by omega, by go_num, HR13.out, HD13.out, HB13.out, HO13.out, HDN13.out, HN13.out⟩
        case measure => simp [intOf]; omega
    · obtain rfl : k = T := by omega
      obtain rfl : e' = 0 := by omega
      rw [List.drop_of_length_le (by rw [HLT.out]; exact Nat.le_refl _)] at HR
      rw [List.take_of_length_le (by rw [HLT.out]; exact Nat.le_refl _)] at HD
      have hS := HSS.out L
      rw [HBS.out, ← sure_row HCL.out] at hS
      have hra := HRA.out
      have hre := HRE.out
      have hqa := HQA.out
      have hsu := HPU.out _ HRU.out
      rw [← hS] at hra hre hqa hsu
      obtain ⟨S, hSe⟩ : ∃ S, rowL (·.sure) (doAll L (filD base)) N = S := ⟨_, rfl⟩
      have hSl : S.length = N := by rw [← hSe]; exact rowL_length _ _ _
      have HSU : Hid (∀ W, Nw wr W → Calls Try.prog 27 #[.pointer (some ⟨d, 0, none⟩)] W fun e w' => ∃ sa sc, e = .returned (.slice sa N sc) ∧ Ints w'.heap.size .u64 w' sa S ∧ Nw W w' ∧ N ≤ sc) := fun W hW =>
        (sure_any d db N (doAll L (filD base)) W (HD.out.nw hW)).mono fun e w' h => by
          obtain ⟨sa, sc, he, h1, h2, h3⟩ := h.slice
          rw [hSe] at he h1 h3
          rw [hSl] at he h3
          exact ⟨sa, sc, he, h1, h2, h3⟩
      rw [hSe] at hra hre hqa hsu
      have HRA2 := Lib.hid hra
      have HRE2 := Lib.hid hre
      have HQA2 := Lib.hid hqa
      have HSL := Lib.hid hSl
      have HSV := Lib.hid hsu
      have HLO : Hid (∀ W, Nw wr W → Calls Try.prog 28 #[.pointer (some ⟨d, 0, none⟩)] W fun e w' => e = .returned (.int .i64 0) ∧ Nw W w') := fun W hW => by
        have h := loose_any d db N (doAll L (filD base)) W (HD.out.nw hW)
        rw [show (lsL N (doAll L (filD base))).length = 0 from clean_loose HCL.out] at h
        exact h
      have HNE := Lib.hid HN.out
      clear hS hra hre hqa hsu hSe hSl
      go_wp2_with fail
      (with_reducible refine HLE.out.mono ?_)
      rintro e1 w8 ⟨rfl, rfl⟩
      go_wp2_with fail
      (with_reducible refine (HSU.out _ Nw.refl).mono ?_)
      rintro e2 w9 ⟨sa, sc, rfl, hsI, hn9, hsc⟩
      have HSI := Lib.hid hsI
      have HN9 := Lib.hid hn9
      have HB9 := Lib.hid (HB.out.nw hn9)
      have c0 : w9.cell? ⟨bx, 0, none⟩ = some (.int .i64 (X : Int)) := HB9.out.cell rfl
      have c1 : w9.cell? ⟨bx, 1, none⟩ = some (.int .i64 2) := HB9.out.cell rfl
      have c2 : w9.cell? ⟨bx, 2, none⟩ = some (.int .i64 10) := HB9.out.cell rfl
      have HAR : Hid (∀ W, Calls Try.prog 18 #[.agg #[.int .i64 (X : Int), .int .i64 2, .int .i64 10], .int .i64 m] W fun e w' => e = .returned (.int .i64 A) ∧ At W w') := fun W => by
        have := area_at ⟨(X : Int), 2, 10⟩ m (w0 := W) (w := W) At.refl
        rw [(ov_words HOVK.out m hm2).2, hAi] at this
        exact this
      clear hsI hn9 HLE HSU hA hAi
      go_wp2_with fail
      (with_reducible refine (HAR.out _).mono ?_)
      rintro e3 w10 ⟨rfl, h10⟩
      have HN10 := Lib.hid (HN9.out.trans h10.nw)
      have HSI10 := Lib.hid (Ints.nw (n := 0) h10.nw HSI.out)
      have HR10 := Lib.hid (HR.out.nw HN10.out)
      have HLE : Hid (Calls Try.prog 14 #[.pointer (some ⟨r, 0, none⟩)] w10 fun e w' => e = .returned (.int .i64 0) ∧ w10 = w') := left_any r d ⟨(X : Int), 2, 10⟩ (A : Int) [] a' (by decide) w10 HR10.out
      clear h10 HSI HN9 HB9 c0 c1 c2 HAR
      go_wp2_with fail
      (with_reducible refine HLE.out.mono ?_)
      rintro e4 w11 ⟨rfl, rfl⟩
      go_wp2_with fail
      (with_reducible refine (HLO.out _ HN10.out).mono ?_)
      rintro e5 w12 ⟨rfl, hn12⟩
      have HN12 := Lib.hid (HN10.out.trans hn12)
      have HSI12 := Lib.hid (Ints.nw (n := 0) hn12 HSI10.out)
      obtain ⟨sb, so, rfl, _, p1⟩ := HSI12.out.at (j := A) (by rw [HSL.out]; omega)
      have hv0 : S[A]'(by rw [HSL.out]; omega) = 0 := by
        have := HRA2.out
        unfold fnL at this
        rw [List.getElem?_eq_getElem (by rw [HSL.out]; omega)] at this
        exact this
      rw [hv0] at p1
      have hAi1 : (A : Int) < (N : Int) := by omega
      have hAi0 : (0 : Int) ≤ (A : Int) := by omega
      have hNNe : ((N : Int) != (N : Int)) = false := by simp
      clear hn12 hv0 HSI10 HN10 HR10 HLE
      go_wp2_with fail
      have HDN12 := Lib.hid (HDN.out.nw HN12.out)
      have HNF := Lib.hid (HNE.out.trans HN12.out)
      have HBF := Lib.hid (HB.out.nw HN12.out)
      have hA64 : (A : Int) ≤ 65536 := by have := HNB.out.2.2.2; omega
      clear HDN HN HB HO HD HR HN12 p1 HLO
      simp only [show decide (N ≤ A) = false by simp; omega, show decide ((A : Int) < 0) = false by simp, Bool.or_false]
      go_loopw [23] (fun i wq => ∃ q : Nat, q ≤ N ∧ i = .int .i64 q ∧ ∃ n', wq = w12.drewN n') (fun i _ => N - (intOf i).toNat)
      case atStart => exact ⟨0, Nat.zero_le _, rfl, 0, rfl⟩
      case round =>
        obtain ⟨q, hq, rfl, n', hwq⟩ := hrel
        have HWQ := Lib.hid hwq
        by_cases hqN : q < N
        · obtain ⟨sb', so', he, _, p1⟩ := HSI12.out.at (j := q) (by rw [HSL.out]; exact hqN)
          simp only [Option.some.injEq, Addr.mk.injEq, and_true] at he
          obtain ⟨rfl, rfl⟩ := he
          have p2 := HDN12.out.at_ q (by rw [HDNL.out]; exact hqN)
          have HEQ := Lib.hid (show q < A ∨ A + 208 ≤ q → S[q]'(by rw [HSL.out]; exact hqN) = dn[q]?.getD 0 from fun h => by
            have := HRE2.out q (by rw [HLF.out]; exact hqN) h
            unfold fnL at this
            rw [List.getElem?_eq_getElem (by rw [HSL.out]; exact hqN)] at this
            exact this)
          replace p1 : wr.cell? ⟨sb, so + q, none⟩ = some (.int .u64 (S[q]'(by rw [HSL.out]; exact hqN))) := by rw [hwq]; exact p1
          replace p2 : wr.cell? ⟨nb, q, none⟩ = some (.int .u64 (dn[q]?.getD 0)) := by rw [hwq]; exact p2
          generalize S[q]'(by rw [HSL.out]; exact hqN) = v1 at *
          generalize dn[q]?.getD 0 = v2 at *
          have hq0 : (q : Int) < (N : Int) := by omega
          have hqn0 : (0 : Int) ≤ (q : Int) := by omega
          have hN64 : (N : Int) ≤ 65536 := HNB.out.2.2.2
          clear hwq
          rcases (show q < A ∨ (A ≤ q ∧ q < A + 208) ∨ A + 208 ≤ q by omega) with hcase | hcase | hcase
          · obtain rfl : v1 = v2 := HEQ.out (.inl hcase)
            have hvv : (v1 != v1) = false := by simp
            have HH := Lib.hid (And.intro (show decide ((q : Int) < (A : Int)) = true by simp; omega) (And.intro (show decide ((A : Int) + 208 ≤ (q : Int)) = false by simp; omega) (And.intro (show decide (q < A) = true by simp; omega) (And.intro (show decide (A + 208 ≤ q) = false by simp; omega) (show IntKind.i64.wrap ((A : Int) + 208) = (A : Int) + 208 from IntWalk.i64_in _ (by omega))))))
            clear hcase
            go_wp2_with fail
            obtain ⟨d1, d2, d3, d4, hwa⟩ := HH.out
            go_quiet (fail)
            clear d1 d2 d3 d4 hwa
            go_wp2_with fail
            go_roundw
            case rel => exact ⟨q + 1, by omega, by go_num, n' + nq, by rw [HWQ.out, World.drewN_drewN]⟩
            case measure => simp [intOf]; omega
          · have HH := Lib.hid (And.intro (show decide ((q : Int) < (A : Int)) = false by simp; omega) (And.intro (show decide ((A : Int) + 208 ≤ (q : Int)) = false by simp; omega) (And.intro (show decide (q < A) = false by simp; omega) (And.intro (show decide (A + 208 ≤ q) = false by simp; omega) (show IntKind.i64.wrap ((A : Int) + 208) = (A : Int) + 208 from IntWalk.i64_in _ (by omega))))))
            clear hcase
            go_wp2_with fail
            obtain ⟨d1, d2, d3, d4, hwa⟩ := HH.out
            go_quiet (fail)
            clear d1 d2 d3 d4 hwa
            go_wp2_with fail
            go_roundw
            case rel => exact ⟨q + 1, by omega, by go_num, n' + nq, by rw [HWQ.out, World.drewN_drewN]⟩
            case measure => simp [intOf]; omega
          · obtain rfl : v1 = v2 := HEQ.out (.inr hcase)
            have hvv : (v1 != v1) = false := by simp
            have HH := Lib.hid (And.intro (show decide ((q : Int) < (A : Int)) = false by simp; omega) (And.intro (show decide ((A : Int) + 208 ≤ (q : Int)) = true by simp; omega) (And.intro (show decide (q < A) = false by simp; omega) (And.intro (show decide (A + 208 ≤ q) = true by simp; omega) (show IntKind.i64.wrap ((A : Int) + 208) = (A : Int) + 208 from IntWalk.i64_in _ (by omega))))))
            clear hcase
            go_wp2_with fail
            obtain ⟨d1, d2, d3, d4, hwa⟩ := HH.out
            go_quiet (fail)
            clear d1 d2 d3 d4 hwa
            go_wp2_with fail
            go_roundw
            case rel => exact ⟨q + 1, by omega, by go_num, n' + nq, by rw [HWQ.out, World.drewN_drewN]⟩
            case measure => simp [intOf]; omega
        · obtain rfl : q = N := by omega
          have HNq := Lib.hid (show Nw w12 wr by rw [hwq]; exact nw_drewN w12 n')
          have HBq := Lib.hid (HBF.out.nw HNq.out)
          have c0 : wr.cell? ⟨bx, 0, none⟩ = some (.int .i64 (X : Int)) := HBq.out.cell rfl
          have c1 : wr.cell? ⟨bx, 1, none⟩ = some (.int .i64 2) := HBq.out.cell rfl
          have c2 : wr.cell? ⟨bx, 2, none⟩ = some (.int .i64 10) := HBq.out.cell rfl
          have HC2 := Lib.hid (over_any ⟨(X : Int), 2, 10⟩ (some ⟨sb, so, none⟩) q sc wr.heap.size S HSL.out hsc (by have := HNB.out.2.1; omega) HSV.out wr (Nat.le_refl _) (Ints.nw (n := 0) HNq.out HSI12.out))
          rw [HQA2.out] at HC2
          unfold OvR gV at HC2
          rw [HDNL.out] at HC2
          have hN8 : q * 8 ≤ 140737488351232 := by have := HNB.out.2.1; omega
          clear hwq
          go_wp2_with fail
          (with_reducible refine HC2.out.mono ?_)
          rintro e1 w13 ⟨va, vc, rfl, hvc, hvI, hvN, hvS⟩
          have HN13 := Lib.hid ((HNF.out.trans HNq.out).trans hvN)
          have HS1 := Lib.hid (same_len va q vc (some ⟨nb, 0, none⟩) nc dn dn HDNL.out HDNL.out hN8 _ w13 hvI ((HDN12.out.nw HNq.out).nw hvN).ints)
          clear hvI hvN hvS HC2 c0 c1 c2
          go_wp2_with fail
          (with_reducible refine HS1.out.mono ?_)
          rintro e2 w14 ⟨rfl, n1, hn1⟩
          have HN14 := Lib.hid (HN13.out.trans (show Nw w13 w14 by rw [hn1]; exact nw_drewN w13 n1))
          first | rw [show decide (dn = dn) = true by simp] | rw [show decide True = true from rfl]
          clear hn1 HS1
          go_wp2_with fail
          refine (works_any w14).mono ?_
          rintro e3 w15 ⟨rfl, h15⟩
          have HF := Lib.hid (HN14.out.trans h15)
          clear h15
          go_wp2_with fail
          go_ret
          exact ⟨rfl, HF.out.b⟩
end Go.Proofs.Ytkopfnldgnkkoaa
