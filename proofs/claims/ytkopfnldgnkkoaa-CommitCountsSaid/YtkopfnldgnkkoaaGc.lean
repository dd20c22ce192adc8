/-
  THE WALK OF CommitCounts.
-/
import Derived.Test.YtkopfnldgnkkoaaGp
import Derived.Test.YtkopfnldgnkkoaaCmW
namespace Go.Proofs.Ytkopfnldgnkkoaa
open Go.RowKit Go.Shelf
set_option linter.unusedVariables false

/-- The phase of the step ahead. -/
def lastP (L : List St) : Nat → Int
  | 0 => 0
  | j + 1 => (L[j]?.map (·.p)).getD 0
theorem lastP_le {L : List St} (h : Rise L) (h1 : ∀ s ∈ L, 1 ≤ s.p ∧ s.p ≤ 6) {j : Nat} (hj : j < L.length) : lastP L j ≤ L[j].p := by
  cases j with
  | zero => have := (h1 _ (List.getElem_mem hj)).1; show (0 : Int) ≤ _; omega
  | succ i =>
    show (L[i]?.map (·.p)).getD 0 ≤ _
    rw [List.getElem?_eq_getElem (by omega)]
    exact List.pairwise_iff_getElem.1 h i (i + 1) (by omega) hj (by omega)
theorem lastP_at {L : List St} {j : Nat} (hj : j < L.length) : lastP L (j + 1) = L[j].p := by
  show (L[j]?.map (·.p)).getD 0 = _
  rw [List.getElem?_eq_getElem hj]; rfl
theorem want_take (n m q : Nat) (hq : q < 7) : ((wantL n m).take (q + 1)).sum = ((wantL n m).take q).sum + (wantL n m)[q]?.getD 0 := by
  match q, hq with
  | 0, _ | 1, _ | 2, _ | 3, _ | 4, _ | 5, _ | 6, _ => simp [wantL] <;> omega
theorem want_le (n m q : Nat) (hn : n ≤ 40) (hm : m ≤ 8192) (hq : q < 7) : ((wantL n m).take q).sum ≤ 10000 ∧ (wantL n m)[q]?.getD 0 ≤ 9000 := by
  match q, hq with
  | 0, _ | 1, _ | 2, _ | 3, _ | 4, _ | 5, _ | 6, _ => simp [wantL] <;> omega

/-- The table of what was told. -/
structure Told (W : World) (tb : Nat) (L : List St) (j : Nat) : Prop where
  ty : Tag W tb 45
  at_ : ∀ q, q < 7 → W.cell? ⟨tb, q, none⟩ = some (.int .i64 (cntP (q : Int) (L.take j) : Nat))
theorem Told.upo {O : Nat → Prop} {W W' : World} {tb : Nat} {L : List St} {j : Nat} (h : Told W tb L j) (k : UpO O W W') (hb : ¬ O tb) : Told W' tb L j := ⟨k.tag h.ty hb, fun q hq => k.cell (h.at_ q hq) hb⟩
theorem Told.step {W : World} {tb : Nat} {L : List St} {j pn : Nat} (h : Told W tb L j) (hj : j < L.length) (hp : L[j].p = (pn : Int)) : Told (W.setCell ⟨tb, pn, none⟩ (.int .i64 ((cntP (pn : Int) (L.take j) : Nat) + 1))) tb L (j + 1) := by
  refine ⟨h.ty.set _ _ _, fun q hq => cell_set W tb q pn _ _ (h.at_ q hq) _ ?_⟩
  rw [cntP_take hj, hp]
  by_cases e : q = pn
  · subst e; rw [if_pos rfl, if_pos rfl]; congr 1
  · rw [if_neg e, if_neg (by omega)]; rfl
theorem cntP_le (q : Int) (L : List St) (j : Nat) : cntP q (L.take j) ≤ j := by
  unfold cntP
  exact Nat.le_trans (List.length_filter_le _ _) (by rw [List.length_take]; omega)
theorem wf_i64 {x : Int} (h0 : 0 ≤ x) (h1 : x ≤ 65536) : (Lit.int .i64 x).wf = true := by
  simp [Lit.wf, IntKind.min, IntKind.max, IntKind.bits, IntKind.signed]
  omega

set_option maxRecDepth 100000 in
set_option maxHeartbeats 16000000 in
theorem walk_counts (a b : Nat) (ha : a ≤ 255) (hb : b ≤ 255) (al : Option Addr) (len cap : Nat) (l : List Pu) (w : World) (hl : l.length = len) (hlm : len ≤ 9223372036854775807) (hI : Recs puC 2 w.heap.size w al l) (hq : ∀ x ∈ l, puOk x) :
    Calls Try.prog 3 #[.int .u8 a, .int .u8 b, .slice al len cap] w fun e w' => e = .returned (.bool true) ∧ Below w.heap.size w w' := by
  have HIW := Lib.hid hI
  have HQ := Lib.hid hq
  have HL := Lib.hid hl
  clear hI hq hl
  obtain ⟨x1, hx1⟩ : ∃ x1, x1 = a % 4 := ⟨_, rfl⟩
  have hr4 : (a : Int).tmod 4 = (x1 : Int) := by rw [Int.tmod_eq_emod_of_nonneg (by omega), hx1]; omega
  have hx14 : x1 < 4 := by omega
  obtain ⟨X, hX⟩ : ∃ X : Nat, 1 + (x1 : Int) = (X : Int) := ⟨1 + x1, by omega⟩
  have HXX := Lib.hid hX
  have hX1 : 1 ≤ (X : Int) ∧ (X : Int) ≤ 4 := by omega
  clear hx1 hX
  go_enter Try.func3, Try.ntmps3
  by_cases h40 : (40 : Int) < (len : Int)
  · go_wp2_with fail
    refine (works_any w).mono ?_
    rintro e w2 ⟨rfl, h2⟩
    have HN2 := Lib.hid h2
    clear h2
    go_wp2_with fail
    go_ret
    exact ⟨rfl, HN2.out.b⟩
  have h40' : len ≤ 40 := by omega
  go_wp2_with fail
  simp only [HXX.out]
  obtain ⟨hXa, hXb⟩ := hX1
  have hm : mayP ⟨(X : Int), 2, 10⟩ := ⟨hXa, hXb, by dsimp only; omega, by dsimp only; omega, by dsimp only; omega, by dsimp only; omega⟩
  obtain ⟨N, hN⟩ : ∃ N : Nat, (N : Int) = 392 + 208 * (X : Int) := ⟨392 + 208 * X, by omega⟩
  have hN7 : atN ⟨(X : Int), 2, 10⟩ 7 = (N : Int) := by simp only [atN]; omega
  have HM := Lib.hid hm
  have HN7 := Lib.hid hN7
  have HNX := Lib.hid hN
  have HWV := Lib.hid (show wordsV ⟨(X : Int), 2, 10⟩ = (N : Int) from (if_pos hm).trans hN7)
  have hN8 : 8 ≤ N ∧ N ≤ 65536 ∧ N % 8 = 0 ∧ (N : Int) ≤ 65536 := by omega
  have HNB := Lib.hid hN8
  have hn1 := (Nw.refl (w := w)).alloc (.cells #[.int .i64 (X : Int), .int .i64 2, .int .i64 10] 25)
  have hbb := Blk.new w #[.int .i64 (X : Int), .int .i64 2, .int .i64 10] 25
  generalize w.alloc (.cells #[.int .i64 (X : Int), .int .i64 2, .int .i64 10] 25) = w1 at *
  generalize hbx : w.heap.size = bx at hbb ⊢
  have HBX := Lib.hid hbx
  have HN1 := Lib.hid hn1
  have HBB := Lib.hid hbb
  have HFM := Lib.hid (format_yes ⟨(X : Int), 2, 10⟩ hm (At.refl (w := w1)))
  unfold FmtYes gV at HFM
  rw [show (atN ⟨(X : Int), 2, 10⟩ 7).toNat = N by omega] at HFM
  have HLF := Lib.hid (show (fmtL ⟨(X : Int), 2, 10⟩).length = N by rw [fmtL_length]; omega)
  clear hbx hn1 hbb hm hN hN7 hN8
  refine HFM.out.mono ?_
  rintro e w2 ⟨bo, rfl, hr, hbo, h2⟩
  have HO2 := Lib.hid hr.ints
  have HB2 := Lib.hid (HBB.out.nw h2.nw)
  have HN2 := Lib.hid (HN1.out.trans h2.nw)
  clear hr hbo h2 HFM HBB HN1
  have HDV := Lib.hid (device_any (some ⟨bo, 0, none⟩) N N w2.heap.size (fmtL ⟨(X : Int), 2, 10⟩) HLF.out HNB.out.1 HNB.out.2.1 HNB.out.2.2.1 w2 (Nat.le_refl _) HO2.out)
  go_wp2_with fail
  (with_reducible refine HDV.out.mono ?_)
  rintro e w3 ⟨d, db, rd, rb, rfl, hD, hR, hn3, hb3, hd3, -, -⟩
  have HD3 := Lib.hid hD
  have HN3 := Lib.hid (HN2.out.trans hn3)
  have HB3 := Lib.hid (HB2.out.nw hn3)
  have HDB := Lib.hid (show w.heap.size ≤ db from Nat.le_trans HN2.out.b.size hb3)
  clear hD hR hn3 hb3 hd3 HDV HB2 HN2 HO2
  obtain ⟨m, hm1, hm2⟩ : ∃ m : Nat, (b : Int).tmod (X : Int) = (m : Int) ∧ (m : Int) < (X : Int) := by
    refine ⟨((b : Int) % (X : Int)).toNat, ?_, ?_⟩
    · rw [Int.tmod_eq_emod_of_nonneg (by omega)]
      have := Int.emod_nonneg (b : Int) (b := (X : Int)) (by omega)
      omega
    · have := Int.emod_nonneg (b : Int) (b := (X : Int)) (by omega)
      have := Int.emod_lt_of_pos (b : Int) (b := (X : Int)) (by omega)
      omega
  have c0 : w3.cell? ⟨bx, 0, none⟩ = some (.int .i64 (X : Int)) := HB3.out.cell rfl
  have c1 : w3.cell? ⟨bx, 1, none⟩ = some (.int .i64 2) := HB3.out.cell rfl
  have c2 : w3.cell? ⟨bx, 2, none⟩ = some (.int .i64 10) := HB3.out.cell rfl
  have hX0 : ¬ (X : Int) = 0 := by omega
  obtain ⟨f0, hf0⟩ : ∃ f0, filD (fmtL ⟨(X : Int), 2, 10⟩) = f0 := ⟨_, rfl⟩
  rw [hf0] at HD3
  clear hf0 HLF
  have HNW := Lib.hid (new_yes ⟨(X : Int), 2, 10⟩ (m : Int) HM.out (by omega) hm2 d db N f0 (by rw [HWV.out]; omega) w3 HD3.out)
  unfold NewRun gV at HNW
  go_wp2_with fail
  (with_reducible refine HNW.out.mono ?_)
  rintro e w4 ⟨r, rfl, hr4, hn4, hr⟩
  have HR4 := Lib.hid hr4
  have HD4 := Lib.hid (HD3.out.nw hn4)
  have HN4 := Lib.hid (HN3.out.trans hn4)
  have HB4 := Lib.hid (HB3.out.nw hn4)
  have HRR := Lib.hid (show w.heap.size ≤ r from Nat.le_trans HN3.out.b.size hr)
  clear hr4 hn4 hr HNW HD3 HN3 HB3 c0 c1 c2
  have c0 : w4.cell? ⟨bx, 0, none⟩ = some (.int .i64 (X : Int)) := HB4.out.cell rfl
  have c1 : w4.cell? ⟨bx, 1, none⟩ = some (.int .i64 2) := HB4.out.cell rfl
  have c2 : w4.cell? ⟨bx, 2, none⟩ = some (.int .i64 10) := HB4.out.cell rfl
  have HWR := Lib.hid (writes_any ⟨(X : Int), 2, 10⟩ m HM.out (by dsimp only; omega) al len cap w.heap.size l HL.out (by omega) w4 HN4.out.b.size (HIW.out.below HN4.out.b) HQ.out)
  have hin := wrL_in (b := atN ⟨(X : Int), 2, 10⟩ 6 + 8 * (1 + 2 * (m : Int))) HQ.out
  have hol := wrL_len (atN ⟨(X : Int), 2, 10⟩ 6 + 8 * (1 + 2 * (m : Int))) l
  rw [HL.out] at hol
  obtain ⟨o, ho⟩ : ∃ o, wrL (atN ⟨(X : Int), 2, 10⟩ 6 + 8 * (1 + 2 * (m : Int))) l = o := ⟨_, rfl⟩
  rw [ho] at HWR hin hol
  have hat6 : atN ⟨(X : Int), 2, 10⟩ 6 = (N : Int) - 80 := by have := HNX.out; simp only [atN]; omega
  have HMAY := Lib.hid (inB_may HM.out hin (by omega) (by omega) (by rw [HN7.out]; omega))
  have HOI := Lib.hid (show ∀ x ∈ o, 0 ≤ x.1 ∧ x.1 < (N : Int) ∧ u64 x.2 from fun x hx => by
    have h1 := hin.i x hx
    have h2 := HNX.out
    exact ⟨by omega, by omega, h1.2.2⟩)
  obtain ⟨n, hn⟩ : ∃ n, o.length = n := ⟨_, rfl⟩
  have HOL := Lib.hid hn
  unfold WritesR gV at HWR
  rw [hn] at HWR hol
  have hn40 : (n : Int) ≤ 40 := by omega
  clear ho hin hn hat6
  go_wp2_with fail
  (with_reducible refine HWR.out.mono ?_)
  rintro e w5 ⟨oa, oc, rfl, hoc, hP, hn5, hof, hsh⟩
  have HP5 := Lib.hid hP
  have HOF := Lib.hid hof
  have HSH := Lib.hid hsh
  have HR5 := Lib.hid (HR4.out.nw hn5)
  have HD5 := Lib.hid (HD4.out.nw hn5)
  have HN5 := Lib.hid (HN4.out.trans hn5)
  have HB5 := Lib.hid (HB4.out.nw hn5)
  have HRL4 := Lib.hid (show r < w4.heap.size from HR4.out.tag.lt)
  clear hP hof hsh hn5 HWR HR4 HD4 HN4 HB4 c0 c1 c2
  obtain ⟨R, hR⟩ : ∃ R : Nat, R = 2 + 2 * n := ⟨_, rfl⟩
  obtain ⟨M, hM⟩ : ∃ M, N / 8 = M := ⟨_, rfl⟩
  have HM8 := Lib.hid hM
  have hM8 : (M : Int) ≤ 8192 := by have := HNB.out.2.1; omega
  have HQ8 := Lib.hid (show (N : Int).tdiv 8 = (M : Int) by rw [Int.tdiv_eq_ediv_of_nonneg (by omega)]; omega)
  have hRi : (R : Int) ≤ 82 := by omega
  go_wp2_with fail
  simp only [show 2 + 2 * (n : Int) = (R : Int) by omega]
  have HRN := Lib.hid hR
  have HLW := Lib.hid (fun (W : World) => lwords_any ⟨(X : Int), 2, 10⟩ (At.refl (w := W)))
  rw [HWV.out] at HLW
  unfold gV at HLW
  clear hM hR
  go_loopw [17, 16] (fun i v wq => ∃ j : Nat, j ≤ M ∧ i = .int .i64 j ∧ v = .int .i64 (cntL (inLine o) j : Nat) ∧ Nw w5 wq) (fun i _ _ => M - (intOf i).toNat)
  case atStart => exact ⟨0, Nat.zero_le _, rfl, rfl, Nw.refl⟩
  case round =>
    obtain ⟨j, hj, rfl, rfl, hn⟩ := hrel
    have HN := Lib.hid hn
    have hcj := cntL_le (inLine o) j
    have HCS := Lib.hid (cntL_succ (inLine o) j)
    obtain ⟨C, hC⟩ : ∃ C, cntL (inLine o) j = C := ⟨_, rfl⟩
    rw [hC] at hcj HCS
    simp only [hC]
    have HCC := Lib.hid hC
    have hCi : (C : Int) ≤ 8192 := by omega
    have c0 : wr.cell? ⟨bx, 0, none⟩ = some (.int .i64 (X : Int)) := (HB5.out.nw hn).cell rfl
    have c1 : wr.cell? ⟨bx, 1, none⟩ = some (.int .i64 2) := (HB5.out.nw hn).cell rfl
    have c2 : wr.cell? ⟨bx, 2, none⟩ = some (.int .i64 10) := (HB5.out.nw hn).cell rfl
    have HLr := Lib.hid (HLW.out wr)
    clear hC hn
    go_wp2_with fail
    (with_reducible refine HLr.out.mono ?_)
    rintro e w6 ⟨rfl, h6⟩
    have HN6 := Lib.hid (HN.out.trans h6.nw)
    have hq8 := HQ8.out
    clear h6 HLr HN c0 c1 c2
    by_cases hjM : j < M
    · have hji : (j : Int) < (M : Int) := by omega
      have HP6 := Lib.hid (show Pairs .i64 .u64 w6.heap.size w6 oa o from pairs_upo (HP5.out) (O := fun _ => False) (.of_nw HN6.out) (fun _ _ h => h) |>.mono HN6.out.b.size)
      go_wp2_with fail
      go_loopw [19, 18] (fun i t wq => ∃ q : Nat, q ≤ n ∧ i = .int .i64 q ∧ t = .bool ((o.take q).any fun y => y.1.tdiv 8 == (j : Int)) ∧ wq = w6) (fun i _ _ => n - (intOf i).toNat)
      case atStart => exact ⟨0, Nat.zero_le _, rfl, rfl, rfl⟩
      case round =>
        obtain ⟨q, hq, rfl, rfl, rfl⟩ := hrel
        by_cases hqn : q < n
        · have hqo : q < o.length := by rw [HOL.out]; exact hqn
          obtain ⟨ob, oo, rfl, f1, f2⟩ := Pairs.at HP6.out hqo
          have HAN := Lib.hid (any_take (fun y : Wr => y.1.tdiv 8 == (j : Int)) o hqo)
          have hoi := HOI.out _ (List.getElem_mem hqo)
          generalize o[q] = y at *
          obtain ⟨y1, y2⟩ := y
          dsimp only at f1 HAN hoi
          obtain ⟨t, ht, hti⟩ : ∃ t : Nat, y1.tdiv 8 = (t : Int) ∧ (t : Int) ≤ 8192 := ⟨(y1 / 8).toNat, by rw [Int.tdiv_eq_ediv_of_nonneg hoi.1]; omega, by have := HNB.out.2.1; omega⟩
          rw [ht] at HAN
          have hq0 : (q : Int) < (n : Int) := by omega
          have hqn0 : (0 : Int) ≤ (q : Int) := by omega
          generalize (o.take q).any (fun y => y.1.tdiv 8 == (j : Int)) = bb at *
          clear hoi
          cases bb
          · go_wp2_with fail
            go_roundw
            case rel => exact ⟨q + 1, by omega, by go_num, by rw [HAN.out]; simp, trivial⟩
            case measure => simp [intOf]; omega
          · go_wp2_with fail
            go_roundw
            case rel => exact ⟨q + 1, by omega, by go_num, by rw [HAN.out]; rfl, trivial⟩
            case measure => simp [intOf]; omega
        · obtain rfl : q = n := by omega
          rw [List.take_of_length_le (by rw [HOL.out]; exact Nat.le_refl _)]
          have HIL := Lib.hid (show inLine o j = (o.any fun y => y.1.tdiv 8 == (j : Int)) from rfl)
          generalize (o.any fun y => y.1.tdiv 8 == (j : Int)) = bb at *
          cases bb
          · go_wp2_with fail
            go_roundw
            case rel => exact ⟨j + 1, by omega, by go_num, by rw [HCS.out, HIL.out, if_neg (by simp)]; rfl, HN6.out⟩
            case measure => simp [intOf]; omega
          · go_wp2_with fail
            go_roundw
            case rel => exact ⟨j + 1, by omega, by go_num, by rw [HCS.out, HIL.out, if_pos rfl]; go_num, HN6.out⟩
            case measure => simp [intOf]; omega
    · obtain rfl : j = M := by omega
      have hji : ¬ ((j : Int) < (j : Int)) := by omega
      go_wp2_with fail
      have HB7 := Lib.hid (Blk.new w6 #[.int .i64 0, .int .i64 (R : Int), .int .i64 (((R : Int) + 7) / 8 + 1), .int .i64 3, .int .i64 (n : Int), .int .i64 ((C : Int) + 1), .int .i64 3] 3)
      have HN7w := Lib.hid (HN6.out.alloc (.cells #[.int .i64 0, .int .i64 (R : Int), .int .i64 (((R : Int) + 7) / 8 + 1), .int .i64 3, .int .i64 (n : Int), .int .i64 ((C : Int) + 1), .int .i64 3] 3))
      generalize w6.alloc (.cells #[.int .i64 0, .int .i64 (R : Int), .int .i64 (((R : Int) + 7) / 8 + 1), .int .i64 3, .int .i64 (n : Int), .int .i64 ((C : Int) + 1), .int .i64 3] 3) = w7 at *
      have HWT : Hid (∀ W, Blk W w6.heap.size #[.int .i64 0, .int .i64 (R : Int), .int .i64 (((R : Int) + 7) / 8 + 1), .int .i64 3, .int .i64 (n : Int), .int .i64 ((C : Int) + 1), .int .i64 3] 3 → ∀ q, q < 7 → W.cell? ⟨w6.heap.size, q, none⟩ = some (.int .i64 ((wantL n C)[q]?.getD 0 : Nat))) := fun W hW q hq => by
        have hRn := HRN.out
        match q, hq with
        | 0, _ => exact hW.cell rfl
        | 1, _ => rw [show ((wantL n C)[1]?.getD 0 : Nat) = R by rw [hRn]; rfl]; exact hW.cell rfl
        | 2, _ => rw [show (((wantL n C)[2]?.getD 0 : Nat) : Int) = ((R : Int) + 7) / 8 + 1 by rw [hRn]; show (((2 + 2 * n + 7) / 8 + 1 : Nat) : Int) = _; omega]; exact hW.cell rfl
        | 3, _ => exact hW.cell rfl
        | 4, _ => exact hW.cell rfl
        | 5, _ => rw [show (((wantL n C)[5]?.getD 0 : Nat) : Int) = (C : Int) + 1 by show ((C + 1 : Nat) : Int) = _; omega]; exact hW.cell rfl
        | 6, _ => exact hW.cell rfl
      generalize hwb : w6.heap.size = wb at *
      clear hwb
      generalize #[Value.int .i64 0, .int .i64 (R : Int), .int .i64 (((R : Int) + 7) / 8 + 1), .int .i64 3, .int .i64 (n : Int), .int .i64 ((C : Int) + 1), .int .i64 3] = cs at *
      go_loopw [22, 21] (fun i v wq => ∃ q : Nat, q ≤ 7 ∧ i = .int .i64 q ∧ v = .int .i64 (((wantL n C).take q).sum : Nat) ∧ wq = w7) (fun i _ _ => 7 - (intOf i).toNat)
      case atStart => exact ⟨0, Nat.zero_le _, rfl, rfl, rfl⟩
      case round =>
        obtain ⟨q, hq, rfl, rfl, rfl⟩ := hrel
        by_cases hq7 : q < 7
        · have HWK := Lib.hid (want_take n C q hq7)
          have hbd := want_le n C q (by omega) (by omega) hq7
          have p1 := HWT.out wr HB7.out q hq7
          generalize ((wantL n C).take q).sum = sq at *
          generalize (wantL n C)[q]?.getD 0 = v at *
          obtain ⟨hb1, hb2⟩ := hbd
          have hb1' : (sq : Int) ≤ 10000 := by omega
          have hb2' : (v : Int) ≤ 9000 := by omega
          have hq0 : (q : Int) < 7 := by omega
          have hqn0 : (0 : Int) ≤ (q : Int) := by omega
          go_wp2_with fail
          go_roundw
          case rel => exact ⟨q + 1, by omega, by go_num, by rw [HWK.out]; go_num, trivial⟩
          case measure => simp [intOf]; omega
        · obtain rfl : q = 7 := by omega
          have harea : (264 + 208 * (m : Int)) = 8 * ((33 + 26 * m : Nat) : Int) := by omega
          have hLB := lines_in o j (by omega) (fun x hx => by have h1 := HOI.out x hx; have h2 := HM8.out; have h3 := HNB.out.2.2.1; omega)
          rw [HCC.out] at hLB
          have hlen := begin_len (33 + 26 * m) o (by rw [HOL.out]; omega) (by omega)
          have hcnt := begin_cnt (33 + 26 * m) o (by rw [HOL.out]; omega) (by omega)
          obtain ⟨hri, hp6⟩ := begin_rise (264 + 208 * (m : Int)) o
          have hok := begin_ok (N := N) (area := 264 + 208 * (m : Int)) (by omega) (by omega) (by have := HNX.out; omega) (l := o) (by rw [HOL.out]; omega) (fun x hx => by have := HOI.out x hx; have := HNB.out.2.1; omega)
          rw [← harea, hLB, HOL.out] at hlen hcnt
          have hbd := want_le n C 6 (by omega) (by omega) (by decide)
          have htk := want_take n C 6 (by decide)
          rw [show (wantL n C).take (6 + 1) = wantL n C from rfl] at htk
          simp only [show ((wantL n C).take 7) = wantL n C from rfl]
          generalize hT : (wantL n C).sum = T at *
          have hT1 : (T : Int) ≤ 20000 := by omega
          have HR7 := Lib.hid (HR5.out.nw HN7w.out)
          have HD7 := Lib.hid (HD5.out.nw HN7w.out)
          have HNA := Lib.hid (HN5.out.trans HN7w.out)
          have HBG := Lib.hid (begin_yes r d ⟨(X : Int), 2, 10⟩ (264 + 208 * (m : Int)) none (by omega) (by omega) oa n oc wr.heap.size o HOL.out HSH.out (fun x hx => by have h1 := HOI.out x hx; exact ⟨wf_i64 h1.1 (by have := HNB.out.2.2.2; omega), h1.2.2⟩) HMAY.out wr (Nat.le_refl _)
            (pairs_upo HP5.out (O := fun _ => False) (.of_nw HN7w.out) (fun _ _ h => h) |>.mono HN7w.out.b.size) HR7.out (fun p hp hx => by
              have h1 := HOF.out p hp
              have h2 := HRL4.out
              rcases hx with hx | ⟨p', hp', _⟩
              · omega
              · cases hp'))
          generalize hL : beginL (264 + 208 * (m : Int)) o = L at *
          have HLT := Lib.hid hlen
          have HCNT := Lib.hid hcnt
          have HRI := Lib.hid hri
          have HP6 := Lib.hid hp6
          have HOKS := Lib.hid hok
          clear hlen hcnt hri hp6 hok hLB hbd htk hT hL HIW HQ HL HMAY HOI HOL HOF HSH HRL4 HP5 HR5 HD5 HN5 HB5
          unfold RunG at HBG
          go_wp2_with fail
          (with_reducible refine HBG.out.mono ?_)
          rintro e w8 ⟨rfl, a8, hm8⟩
          have HM8r := Lib.hid hm8.rr
          have HNd := Lib.hid (show ¬ OwnR9 r none d ∧ ¬ OwnR9 r none db from ⟨HR7.out.not_own HD7.out.k.tag (by decide) (by decide), HR7.out.not_own HD7.out.a.ty (by decide) (by decide)⟩)
          have HD8 := Lib.hid (HD7.out.upo hm8.u HNd.out.1 HNd.out.2)
          have HB8 := Lib.hid (hm8.u.blk HB7.out (HR7.out.not_own HB7.out.tag (by decide) (by decide)))
          have HN8 := Lib.hid (show Nw w w8 from UpO.nw_of HNA.out hm8.u (fun x hx => by
            rcases hx with hx | ⟨p', hp', _⟩
            · rw [hx]; exact HRR.out
            · cases hp'))
          have HLE := Lib.hid (left_any r d ⟨(X : Int), 2, 10⟩ (264 + 208 * (m : Int)) L a8 (by rw [HLT.out]; omega) w8 HM8r.out)
          rw [HLT.out] at HLE
          clear hm8 HNd HR7 HD7 HB7 HNA HN7w HBG
          go_wp2_with fail
          (with_reducible refine HLE.out.mono ?_)
          rintro e w9 ⟨rfl, rfl⟩
          have hTT : ((T : Int) != (T : Int)) = false := by simp
          go_wp2_with fail
          have HB10 := Lib.hid (HB8.out.alloc (.cells #[.int .i64 0, .int .i64 0, .int .i64 0, .int .i64 0, .int .i64 0, .int .i64 0, .int .i64 0] 45))
          have HT10 := Lib.hid (show Told (w8.alloc (.cells #[.int .i64 0, .int .i64 0, .int .i64 0, .int .i64 0, .int .i64 0, .int .i64 0, .int .i64 0] 45)) w8.heap.size L 0 from by
            have hb := Blk.new w8 #[.int .i64 0, .int .i64 0, .int .i64 0, .int .i64 0, .int .i64 0, .int .i64 0, .int .i64 0] 45
            refine ⟨hb.tag, fun q hq => ?_⟩
            match q, hq with
            | 0, _ | 1, _ | 2, _ | 3, _ | 4, _ | 5, _ | 6, _ => exact hb.cell rfl)
          have hna := (Nw.refl (w := w8)).alloc (.cells #[.int .i64 0, .int .i64 0, .int .i64 0, .int .i64 0, .int .i64 0, .int .i64 0, .int .i64 0] 45)
          have HN10 := Lib.hid (HN8.out.trans hna)
          have HR10 := Lib.hid (HM8r.out.nw hna)
          have HD10 := Lib.hid (HD8.out.nw hna)
          have HTB := Lib.hid (show w.heap.size ≤ w8.heap.size from HN8.out.b.size)
          generalize w8.alloc (.cells #[.int .i64 0, .int .i64 0, .int .i64 0, .int .i64 0, .int .i64 0, .int .i64 0, .int .i64 0] 45) = w10 at *
          generalize w8.heap.size = tb at *
          clear hna HB8 HN8 HM8r HD8 HLE hTT
          go_loopw [24, 25] (fun lv i wq => ∃ (k e : Nat) (a' : Option Addr), e + k = T ∧ i = .int .i64 e ∧ lv = .int .u8 (lastP L k) ∧ RunAt wq r d ⟨(X : Int), 2, 10⟩ (264 + 208 * (m : Int)) (L.drop k) a' ∧ DevAt wq d db N (doAll (L.take k) f0) ∧ Told wq tb L k ∧ Blk wq wb cs 3 ∧ Nw w wq) (fun _ i _ => (intOf i).toNat)
          case atStart => exact ⟨0, T, a8, rfl, rfl, rfl, HR10.out, HD10.out, HT10.out, HB10.out, HN10.out⟩
          case round =>
            clear HB10 HT10 HN10 HR10 HD10
            obtain ⟨k, e, a', hek, rfl, rfl, hR, hD, hT, hB, hN⟩ := hrel
            have HR := Lib.hid hR
            have HD := Lib.hid hD
            have HT := Lib.hid hT
            have HB := Lib.hid hB
            have HN := Lib.hid hN
            clear hR hD hT hB hN
            by_cases hk : k < T
            · obtain ⟨e', he'⟩ : ∃ e', e = e' + 1 := ⟨e - 1, by omega⟩
              have hkL : k < L.length := by rw [HLT.out]; exact hk
              have hdrop := List.drop_eq_getElem_cons hkL
              have hp6 := HP6.out _ (List.getElem_mem hkL)
              have hlast := lastP_le HRI.out HP6.out hkL
              have hlat := lastP_at hkL
              obtain ⟨pn, hpn⟩ : ∃ pn : Nat, L[k].p = (pn : Int) := ⟨(L[k].p).toNat, by omega⟩
              have HST := Lib.hid (step_any r d db N ⟨(X : Int), 2, 10⟩ (264 + 208 * (m : Int)) L[k] (L.drop (k + 1)) a' (by rw [List.length_drop, HLT.out]; omega) (doAll (L.take k) f0) (HOKS.out _ (List.getElem_mem hkL)) wr HD.out (by rw [← hdrop]; exact HR.out))
              unfold StepG at HST
              rw [hpn, ← doAll_take_succ hkL] at HST
              rw [hpn] at hp6 hlast hlat
              have HLA := Lib.hid hlat
              have HPN := Lib.hid hpn
              have hei : (0 : Int) < (e : Int) := by omega
              have hwe : IntKind.i64.wrap ((e : Int) - 1) = (e' : Int) := by rw [show (e : Int) - 1 = (e' : Int) by omega]; exact IntWalk.i64_in _ (by omega)
              obtain ⟨hp1, hp6⟩ := hp6
              generalize lastP L k = lp at *
              have hplt : ¬ ((pn : Int) < lp) := by omega
              have hcl := cntP_le (pn : Int) L k
              have HHW := Lib.hid hwe
              clear hdrop hlat hpn hlast hwe
              go_wp2_with fail
              (with_reducible refine HST.out.mono ?_)
              rintro e1 w11 ⟨rfl, a9, hr9, hd9, hu9, hq9⟩
              have HR11 := Lib.hid hr9
              have HD11 := Lib.hid hd9
              have hnb : ¬ (tb = db ∨ tb = r) := by
                rintro (h | h)
                · exact HT.out.ty.ne HD.out.a.ty (by decide) h
                · exact HT.out.ty.ne HR.out.tag (by decide) h
              have hnw : ¬ (wb = db ∨ wb = r) := by
                rintro (h | h)
                · exact HB.out.tag.ne HD.out.a.ty (by decide) h
                · exact HB.out.tag.ne HR.out.tag (by decide) h
              have HT11 := Lib.hid (HT.out.upo hu9 hnb)
              have HB11 := Lib.hid (hu9.blk HB.out hnw)
              have HN11 := Lib.hid (show Nw w w11 from UpO.nw_of HN.out hu9 (fun x hx => by
                rcases hx with rfl | rfl
                · exact HDB.out
                · exact HRR.out))
              have HLE := Lib.hid (left_any r d ⟨(X : Int), 2, 10⟩ (264 + 208 * (m : Int)) (L.drop (k + 1)) a9 (by rw [List.length_drop, HLT.out]; omega) w11 HR11.out)
              rw [show (L.drop (k + 1)).length = e' by rw [List.length_drop, HLT.out]; omega] at HLE
              clear hr9 hd9 hu9 hq9 hnb hnw HST HR HD HT HB HN
              go_wp2_with fail
              (with_reducible refine HLE.out.mono ?_)
              rintro e2 w12 ⟨rfl, rfl⟩
              have hwe := HHW.out
              have p1 := HT11.out.at_ pn (by omega)
              have hfz := HT11.out.ty.frozen pn
              have HSET := Lib.hid (HT11.out.step hkL HPN.out)
              have hup := (Up.refl tb w11).set pn (.int .i64 ((cntP (pn : Int) (L.take k) : Nat) + 1))
              have htr : r ≠ tb := HR11.out.tag.ne HT11.out.ty (by decide)
              have htd : d ≠ tb := HD11.out.k.tag.ne HT11.out.ty (by decide)
              have htb : db ≠ tb := HD11.out.a.ty.ne HT11.out.ty (by decide)
              have HRs := Lib.hid (HR11.out.upo (UpO.of_up (O := fun x => x = tb) hup rfl) htr (fun x hx h => (HR11.out.qtag hx).ne HT11.out.ty (by decide) h) (by
                rintro x (hx | hx | hx) h
                · exact hx.ne HT11.out.ty (by decide) h
                · exact hx.ne HT11.out.ty (by decide) h
                · exact hx.ne HT11.out.ty (by decide) h))
              have HDs := Lib.hid (HD11.out.up hup htd htb)
              have HBs := Lib.hid (HB11.out.up hup (HB11.out.tag.ne HT11.out.ty (by decide)))
              have HNs := Lib.hid (show Nw w (w11.setCell ⟨tb, pn, none⟩ (.int .i64 ((cntP (pn : Int) (L.take k) : Nat) + 1))) from ⟨Up.below HN11.out.b hup HN11.out.b.size HTB.out⟩)
              generalize hc : cntP (pn : Int) (L.take k) = c at *
              have hci : (c : Int) ≤ 20000 := by omega
              have hpi : (pn : Int) < 7 := by omega
              have hpi0 : (0 : Int) ≤ (pn : Int) := by omega
              have hee : ((e' : Int) != (e' : Int)) = false := by simp
              clear hup htr htd htb HR11 HD11 HB11 HN11 HT11 hc
              go_wp2_with fail
              go_roundw
              case rel => exact ⟨k + 1, e', a9, by omega, rfl, by rw [HLA.out], HRs.out, HDs.out, HSET.out, HBs.out, HNs.out⟩
              case measure => simp [intOf]; omega
            · obtain rfl : k = T := by omega
              obtain rfl : e = 0 := by omega
              rw [List.drop_of_length_le (by rw [HLT.out]; exact Nat.le_refl _)] at HR
              have HTW : Hid (∀ q, q < 7 → wr.cell? ⟨tb, q, none⟩ = some (.int .i64 ((wantL n C)[q]?.getD 0 : Nat))) := fun q hq => by
                have h1 := HT.out.at_ q hq
                rw [List.take_of_length_le (by rw [HLT.out]; exact Nat.le_refl _), HCNT.out q hq] at h1
                exact h1
              have HWW := Lib.hid (HWT.out wr HB.out)
              clear HT HD
              go_wp2_with fail
              simp only [show ((0 : Nat) : Int) = 0 from rfl]
              generalize wr = wE at *
              go_loopw [28] (fun i wq => ∃ q : Nat, q ≤ 7 ∧ i = .int .i64 q ∧ ∃ n', wq = wE.drewN n') (fun i _ => 7 - (intOf i).toNat)
              case atStart => exact ⟨0, Nat.zero_le _, rfl, 0, rfl⟩
              case round =>
                obtain ⟨q, hq, rfl, n', hwq⟩ := hrel
                have HWQ := Lib.hid hwq
                by_cases hq7 : q < 7
                · have p1 : wr.cell? ⟨tb, q, none⟩ = some (.int .i64 ((wantL n C)[q]?.getD 0 : Nat)) := by rw [hwq]; exact HTW.out q hq7
                  have p2 : wr.cell? ⟨wb, q, none⟩ = some (.int .i64 ((wantL n C)[q]?.getD 0 : Nat)) := by rw [hwq]; exact HWW.out q hq7
                  generalize (wantL n C)[q]?.getD 0 = v at *
                  have hq0 : (q : Int) < 7 := by omega
                  have hqn0 : (0 : Int) ≤ (q : Int) := by omega
                  have hvv : ((v : Int) != (v : Int)) = false := by simp
                  clear hwq
                  go_wp2_with fail
                  go_quiet (fail)
                  go_wp2_with fail
                  go_roundw
                  case rel => exact ⟨q + 1, by omega, by go_num, n' + nq, by rw [HWQ.out, World.drewN_drewN]⟩
                  case measure => simp [intOf]; omega
                · obtain rfl : q = 7 := by omega
                  have HNF := Lib.hid (show Nw w wr by rw [hwq]; exact HN.out.drewN n')
                  have HRF := Lib.hid (show RunAt wr r d ⟨(X : Int), 2, 10⟩ (264 + 208 * (m : Int)) [] a' by rw [hwq]; exact HR.out.nw (nw_drewN wE n'))
                  have HSN := Lib.hid (step_none r d ⟨(X : Int), 2, 10⟩ (264 + 208 * (m : Int)) a' wr HRF.out)
                  have HPH := Lib.hid (phase_any r d ⟨(X : Int), 2, 10⟩ (264 + 208 * (m : Int)) [] a' (by decide) wr HRF.out)
                  rw [show phaseOf [] = 0 from rfl] at HPH
                  clear hwq
                  go_wp2_with fail
                  (with_reducible refine HSN.out.mono ?_)
                  rintro e1 w12 ⟨rfl, rfl⟩
                  go_wp2_with fail
                  (with_reducible refine HPH.out.mono ?_)
                  rintro e2 w13 ⟨rfl, rfl⟩
                  go_wp2_with fail
                  refine (works_any wr).mono ?_
                  rintro e3 w14 ⟨rfl, h14⟩
                  have HF := Lib.hid (HNF.out.trans h14)
                  clear h14
                  go_wp2_with fail
                  go_ret
                  exact ⟨rfl, HF.out.b⟩
end Go.Proofs.Ytkopfnldgnkkoaa
