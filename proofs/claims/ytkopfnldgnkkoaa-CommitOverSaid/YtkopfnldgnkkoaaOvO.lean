/-
  THE WALK OF CommitOver.
-/
import Derived.Test.YtkopfnldgnkkoaaGm
namespace Go.Proofs.Ytkopfnldgnkkoaa
open Go.RowKit Go.Shelf
set_option linter.unusedVariables false

set_option maxRecDepth 100000 in
set_option maxHeartbeats 8000000 in
theorem walk_over (a b c : Nat) (ha : a ≤ 255) (hb : b ≤ 255) (hc : c ≤ 255) (al : Option Addr) (len cap : Nat) (l : List Pu) (cut : Nat) (hcut : cut ≤ 255) (w : World) (hl : l.length = len) (hlm : len ≤ 9223372036854775807) (hI : Recs puC 2 w.heap.size w al l) (hq : ∀ x ∈ l, puOk x) :
    Calls Try.prog 4 #[.int .u8 a, .int .u8 b, .int .u8 c, .slice al len cap, .int .u8 cut] w fun e w' => e = .returned (.bool true) ∧ Below w.heap.size w w' := by
  have HG := Lib.hid (geo_any a b c ha hb hc w)
  have hm := geo_may a b c
  obtain ⟨g, hg⟩ : ∃ g, geoG a b c = g := ⟨_, rfl⟩
  rw [hg] at HG hm
  clear hg
  have HM := Lib.hid hm
  have HIW := Lib.hid hI
  have HQ := Lib.hid hq
  have HL := Lib.hid hl
  clear hI hq hl
  unfold gV at HG
  go_enter Try.func4, Try.ntmps4
  by_cases h60 : (60 : Int) < (len : Int)
  · go_wp2_with fail
    refine (works_any w).mono ?_
    rintro e w2 ⟨rfl, h2⟩
    have HN2 := Lib.hid h2
    clear h2
    go_wp2_with fail
    go_ret
    exact ⟨rfl, HN2.out.b⟩
  have h60' : len ≤ 60 := by omega
  go_wp2_with fail
  refine HG.out.mono ?_
  rintro e w1 ⟨rfl, h1⟩
  have hn1 := h1.alloc (.cells #[.int .i64 g.w, .int .i64 g.i, .int .i64 g.b] 25)
  have hbb := Blk.new w1 #[.int .i64 g.w, .int .i64 g.i, .int .i64 g.b] 25
  have HN1 := Lib.hid hn1
  have HBB := Lib.hid hbb
  clear hn1 hbb h1
  go_wp2_with fail
  generalize w1.alloc (.cells #[.int .i64 g.w, .int .i64 g.i, .int .i64 g.b] 25) = w2 at *
  generalize hbx : w1.heap.size = bx at HBB ⊢
  clear hbx
  have HFM := Lib.hid (format_yes g HM.out (At.refl (w := w2)))
  obtain ⟨N, hN⟩ : ∃ N, (atN g 7).toNat = N := ⟨_, rfl⟩
  have hN' : atN g 7 = (N : Int) := by have := (at_bd HM.out 7).1; omega
  have HN7 := Lib.hid hN'
  have HWV := Lib.hid (show wordsV g = (N : Int) from (if_pos HM.out).trans hN')
  have HOK := Lib.hid (show ovOk g N from ⟨HM.out, by rw [HWV.out]; exact Int.le_refl _⟩)
  have hN0 : 0 < N := ov_pos HOK.out
  have hN1 : N ≤ 6232 := by have := (at_bd HM.out 7).2; omega
  unfold FmtYes gV at HFM
  rw [hN] at HFM
  have HLF := Lib.hid (show (fmtL g).length = N by rw [fmtL_length]; exact hN)
  clear hN hN'
  refine HFM.out.mono ?_
  rintro e w3 ⟨bo, rfl, hr, hbo, h3⟩
  have HO3 := Lib.hid hr.out
  have HB3 := Lib.hid (HBB.out.nw h3.nw)
  have HN3 := Lib.hid (HN1.out.trans h3.nw)
  have HBO := Lib.hid (show w.heap.size ≤ bo from Nat.le_trans HN1.out.b.size hbo)
  clear hr hbo h3 HFM HBB HG
  have c0 : w3.cell? ⟨bx, 0, none⟩ = some (.int .i64 g.w) := HB3.out.cell rfl
  have c1 : w3.cell? ⟨bx, 1, none⟩ = some (.int .i64 g.i) := HB3.out.cell rfl
  have c2 : w3.cell? ⟨bx, 2, none⟩ = some (.int .i64 g.b) := HB3.out.cell rfl
  have HLW := Lib.hid (lwords_any g (At.refl (w := w3)))
  rw [HWV.out] at HLW
  unfold gV at HLW
  obtain ⟨g1, g2, g3, g4, g5, g6⟩ := HM.out
  go_wp2_with fail
  refine HLW.out.mono ?_
  rintro e w4 ⟨rfl, h4⟩
  have HO4 := Lib.hid (HO3.out.nw h4.nw)
  have HB4 := Lib.hid (HB3.out.nw h4.nw)
  have HN4 := Lib.hid (HN3.out.trans h4.nw)
  have HI4 := Lib.hid (HIW.out.below HN4.out.b)
  clear c0 c1 c2 h4 HO3 HB3 HN3 HLW HIW HN1
  go_wp2_with fail
  rw [show ((N : Int) == 0) = false by rw [beq_eq_false_iff_ne]; omega]
  go_loopw [13] (fun v wq => ∃ (k : Nat) (zs : List Int), k ≤ len ∧ v = .int .i64 k ∧ Blk wq bx #[.int .i64 g.w, .int .i64 g.i, .int .i64 g.b] 25 ∧ OutAt wq bo zs ∧ zs.length = N ∧ (∀ x ∈ zs, u64 x) ∧ NoCom g zs ∧ Up bo w4 wq) (fun v _ => len - (intOf v).toNat)
  case atStart => exact ⟨0, fmtL g, Nat.zero_le _, rfl, HB4.out, HO4.out, HLF.out, fmtL_u64 HM.out, fmtL_noCom HM.out, Up.refl _ _⟩
  case round =>
    obtain ⟨k, zs, hk, rfl, hbk, hok, hzl, hzu, hzc, hup⟩ := hrel
    have HB := Lib.hid hbk
    have HO := Lib.hid hok
    have HZL := Lib.hid hzl
    have HZU := Lib.hid hzu
    have HZC := Lib.hid hzc
    have HUP := Lib.hid hup
    clear hbk hok hzl hzu hzc hup HB4 HO4
    by_cases hkl : k < len
    · have hkL : k < l.length := by rw [HL.out]; exact hkl
      obtain ⟨pb, po, rfl, hpb, p1, p2⟩ := pus_at HI4.out hkL
      have hpb' : pb ≠ bo := by have := HBO.out; omega
      have p1' := HUP.out.cell p1 hpb'
      have p2' := HUP.out.cell p2 hpb'
      have hx := HQ.out _ (List.getElem_mem hkL)
      obtain ⟨x, hxe⟩ : ∃ x, l[k] = x := ⟨_, rfl⟩
      rw [hxe] at p1' p2' hx
      obtain ⟨x1, x2⟩ := x
      obtain ⟨hx1, hx2⟩ := hx
      dsimp only at p1' p2' hx1 hx2
      have HX2 := Lib.hid hx2
      clear p1 p2 hxe hx2 hpb
      obtain ⟨m, hm1, hm2⟩ : ∃ m : Nat, (k : Int).tmod g.w = (m : Int) ∧ (m : Int) < g.w := by
        refine ⟨((k : Int) % g.w).toNat, ?_, ?_⟩
        · rw [Int.tmod_eq_emod_of_nonneg (by omega)]
          have := Int.emod_nonneg (k : Int) (b := g.w) (by omega)
          omega
        · have := Int.emod_nonneg (k : Int) (b := g.w) (by omega)
          have := Int.emod_lt_of_pos (k : Int) (b := g.w) (by omega)
          omega
      obtain ⟨hq1, hq2⟩ := ov_words HOK.out m hm2
      obtain ⟨q, hq⟩ : ∃ q : Nat, q = 264 + 208 * m := ⟨_, rfl⟩
      have HAR : Hid (∀ W, Calls Try.prog 18 #[.agg #[.int .i64 g.w, .int .i64 g.i, .int .i64 g.b], .int .i64 m] W fun e w' => e = .returned (.int .i64 q) ∧ At W w') := fun W => by
        have := area_at g m (w0 := W) (w := W) At.refl
        rw [hq2, show (264 + 208 * (m : Int)) = ((q : Nat) : Int) by omega] at this
        exact this
      have hq3 : q + 208 ≤ N := by omega
      have hq4 : (q : Int) + 208 ≤ (N : Int) := by omega
      have hq0 : 0 ≤ (q : Int) := by omega
      have hgw : ¬ g.w = 0 := by omega
      have HQQ := Lib.hid hq
      clear hq hq1 hq2
      have c0 : wr.cell? ⟨bx, 0, none⟩ = some (.int .i64 g.w) := HB.out.cell rfl
      have c1 : wr.cell? ⟨bx, 1, none⟩ = some (.int .i64 g.i) := HB.out.cell rfl
      have c2 : wr.cell? ⟨bx, 2, none⟩ = some (.int .i64 g.b) := HB.out.cell rfl
      have HK9 : Hid (∀ W, At wr W → W.cell? ⟨bx, 0, none⟩ = some (.int .i64 g.w) ∧ W.cell? ⟨bx, 1, none⟩ = some (.int .i64 g.i) ∧ W.cell? ⟨bx, 2, none⟩ = some (.int .i64 g.b)) :=
        fun W k => ⟨(HB.out.nw k.nw).cell rfl, (HB.out.nw k.nw).cell rfl, (HB.out.nw k.nw).cell rfl⟩
      go_wp2_with fail
      go_region_held3 (fun w' => w'.cell? ⟨bx, 0, none⟩ = some (.int .i64 g.w) ∧ w'.cell? ⟨bx, 1, none⟩ = some (.int .i64 g.i) ∧ w'.cell? ⟨bx, 2, none⟩ = some (.int .i64 g.b))
        (first | (exact HK9.out _ At.refl.drew) | (exact HK9.out _ hk9))
        ((first
          | (go_at_call 18; (try rw [hm1]); (with_reducible refine (HAR.out _).mono ?_); rintro e w5 ⟨rfl, h5⟩; have hk9 := At.refl.drew.trans h5)))
      have HB5 := Lib.hid (HB.out.nw hk9.nw)
      have HO5 := Lib.hid (HO.out.nw hk9.nw)
      have HU5 := Lib.hid (HUP.out.nw hk9.nw)
      have p1 : w5.cell? ⟨pb, po + k * 2, none⟩ = some (.int .u8 x1) := (Nw.b hk9.nw).cell (p := ⟨pb, po + k * 2, none⟩) (cell_lt p1').1 |>.trans p1'
      have p2 : w5.cell? ⟨pb, po + k * 2 + 1, none⟩ = some (.int .u64 x2) := (Nw.b hk9.nw).cell (p := ⟨pb, po + k * 2 + 1, none⟩) (cell_lt p2').1 |>.trans p2'
      clear p1' p2' c0 c1 c2 HK9 HB HO HUP HAR h5 hk9 hm1
      have hk0 : (k : Int) < (len : Int) := by omega
      have hkn : (0 : Int) ≤ (k : Int) := by omega
      by_cases hpar : k % 2 = 0
      · have hk2 : (k : Int).tmod 2 = 0 := by rw [Int.tmod_eq_emod_of_nonneg (by omega)]; omega
        obtain ⟨r, hr⟩ : ∃ r, r = x1 % 207 := ⟨_, rfl⟩
        have hr2 : (x1 : Int).tmod 207 = (r : Int) := by rw [Int.tmod_eq_emod_of_nonneg (by omega), hr]; omega
        obtain ⟨z, hz⟩ : ∃ z, z = q + 1 + r := ⟨_, rfl⟩
        have hw1 : IntKind.i64.wrap ((q : Int) + 1) = (q : Int) + 1 := IntWalk.i64_in _ (by omega)
        have hw2 : IntKind.i64.wrap ((q : Int) + 1 + (r : Int)) = (q : Int) + 1 + (r : Int) := IntWalk.i64_in _ (by omega)
        have hzn : (q : Int) + 1 + (r : Int) < (N : Int) := by omega
        have hz0 : (0 : Int) ≤ (q : Int) + 1 + (r : Int) := by omega
        have hz3 : ((q : Int) + 1 + (r : Int)).toNat = z := by omega
        have hzN : z < N := by omega
        have HNC := Lib.hid (HZC.out.set z x2 (fun j hj => by have := HQQ.out; omega))
        have hcq : w5.cell? ⟨bo, z, none⟩ = some (.int .u64 (zs[z]?.getD 0)) := HO5.out.at_ z (by rw [HZL.out]; omega)
        have hfr : w5.frozen? ⟨bo, z, none⟩ = false := HO5.out.ty.frozen z
        have HS := Lib.hid ((HO5.out.set z x2).nw Nw.refl.drew)
        have HBS := Lib.hid ((HB5.out.far bo z (.int .u64 x2) (HB5.out.tag.ne HO5.out.ty (by decide))).nw Nw.refl.drew)
        have HUS := Lib.hid ((HU5.out.set z (.int .u64 x2)).nw Nw.refl.drew)
        have E1 := Lib.hid (show (w5.setCell ⟨bo, z, none⟩ (.int .u64 x2)).cell? ⟨pb, po + k * 2, none⟩ = some (.int .u8 x1) by rw [cell_far _ _ _ _ _ hpb']; exact p1)
        have E2 := Lib.hid (show (w5.setCell ⟨bo, z, none⟩ (.int .u64 x2)).cell? ⟨pb, po + k * 2 + 1, none⟩ = some (.int .u64 x2) by rw [cell_far _ _ _ _ _ hpb']; exact p2)
        clear hr hz
        generalize zs[z]?.getD 0 = y at hcq
        have HH := Lib.hid (And.intro hw1 (And.intro hw2 (And.intro hzn (And.intro hz0 (And.intro hz3 (And.intro hr2 (show IntKind.i64.wrap (x1 : Int) = (x1 : Int) from IntWalk.i64_in _ (by omega))))))))
        clear hw1 hw2 hzn hz0 hz3 hr2
        go_wp2_with fail
        obtain ⟨hw1, hw2, hzn, hz0, hz3, hr2, hwx⟩ := HH.out
        go_region_held3 (fun w' => w'.cell? ⟨pb, po + k * 2, none⟩ = some (.int .u8 x1) ∧ w'.cell? ⟨pb, po + k * 2 + 1, none⟩ = some (.int .u64 x2))
          (first | (exact ⟨p1, p2⟩) | (exact ⟨E1.out, E2.out⟩))
          (fail)
        generalize (w5.setCell ⟨bo, z, none⟩ (.int .u64 x2)).drew = w7 at *
        clear hcq hfr p1 p2 hw1 hw2 hzn hz0 hz3 hr2 hwx
        go_wp2_with fail
        go_roundw
        case rel => exact ⟨k + 1, zs.set z x2, by omega, by go_num, HBS.out, HS.out, by rw [List.length_set]; exact HZL.out, u64_set HZU.out HX2.out, HNC.out, HUS.out⟩
        case measure => simp [intOf]; omega
      · have hk2 : (k : Int).tmod 2 = 1 := by rw [Int.tmod_eq_emod_of_nonneg (by omega)]; omega
        obtain ⟨r, hr⟩ : ∃ r, r = x1 % 8 := ⟨_, rfl⟩
        have hr2 : (x1 : Int).tmod 8 = (r : Int) := by rw [Int.tmod_eq_emod_of_nonneg (by omega), hr]; omega
        have hbq : placeV g 6 1 = atN g 6 + 8 := by
          have : placeV g 6 1 = atN g 6 + sizeN 6 * 1 := if_pos ⟨HM.out, by omega, by simp only [manyN]; omega⟩
          rw [this]; simp only [sizeN]; omega
        obtain ⟨bq, hbq'⟩ : ∃ bq : Nat, (bq : Int) = atN g 6 + 8 := ⟨(atN g 6 + 8).toNat, by have := (at_bd HM.out 6).1; omega⟩
        have hbqN : bq + 8 ≤ N := by have := HN7.out; simp only [atN] at this hbq'; omega
        have hbq2 : ∀ j : Nat, (j : Int) < g.w → 264 + 208 * j < bq := fun j hj => by simp only [atN] at hbq'; omega
        have HBQ2 := Lib.hid hbq2
        have HBA : Hid (∀ W, Calls Try.prog 19 #[.agg #[.int .i64 g.w, .int .i64 g.i, .int .i64 g.b], .int .i64 1] W fun e w' => e = .returned (.int .i64 bq) ∧ At W w') := fun W => by
          have := block_at g 1 (w0 := W) (w := W) At.refl
          rw [hbq, ← hbq'] at this
          exact this
        obtain ⟨z, hz⟩ : ∃ z, z = bq + r := ⟨_, rfl⟩
        have hw2 : IntKind.i64.wrap ((bq : Int) + (r : Int)) = (bq : Int) + (r : Int) := IntWalk.i64_in _ (by omega)
        have hzn : (bq : Int) + (r : Int) < (N : Int) := by omega
        have hz0 : (0 : Int) ≤ (bq : Int) + (r : Int) := by omega
        have hz3 : ((bq : Int) + (r : Int)).toNat = z := by omega
        have hzN : z < N := by omega
        have HNC := Lib.hid (HZC.out.set z x2 (fun j hj => by have := HBQ2.out j hj; omega))
        have HKB : Hid (∀ W, At w5 W → W.cell? ⟨bo, z, none⟩ = some (.int .u64 (zs[z]?.getD 0)) ∧ W.frozen? ⟨bo, z, none⟩ = false) := fun W k => ⟨(HO5.out.nw k.nw).at_ z (by rw [HZL.out]; omega), (HO5.out.nw k.nw).ty.frozen z⟩
        have HKA : Hid (∀ W, At w5 W → W.cell? ⟨bx, 0, none⟩ = some (.int .i64 g.w) ∧ W.cell? ⟨bx, 1, none⟩ = some (.int .i64 g.i) ∧ W.cell? ⟨bx, 2, none⟩ = some (.int .i64 g.b) ∧ W.cell? ⟨pb, po + k * 2, none⟩ = some (.int .u8 x1) ∧ W.cell? ⟨pb, po + k * 2 + 1, none⟩ = some (.int .u64 x2)) :=
          fun W k => ⟨(HB5.out.nw k.nw).cell rfl, (HB5.out.nw k.nw).cell rfl, (HB5.out.nw k.nw).cell rfl, (k.b.cell (p := ⟨pb, _, none⟩) (cell_lt p1).1).trans p1, (k.b.cell (p := ⟨pb, _, none⟩) (cell_lt p2).1).trans p2⟩
        have hbx : bx ≠ bo := HB5.out.tag.ne HO5.out.ty (by decide)
        have HKS : Hid (∀ W, At w5 W → (W.setCell ⟨bo, z, none⟩ (.int .u64 x2)).cell? ⟨bx, 0, none⟩ = some (.int .i64 g.w) ∧ (W.setCell ⟨bo, z, none⟩ (.int .u64 x2)).cell? ⟨bx, 1, none⟩ = some (.int .i64 g.i) ∧ (W.setCell ⟨bo, z, none⟩ (.int .u64 x2)).cell? ⟨bx, 2, none⟩ = some (.int .i64 g.b) ∧ (W.setCell ⟨bo, z, none⟩ (.int .u64 x2)).cell? ⟨pb, po + k * 2, none⟩ = some (.int .u8 x1) ∧ (W.setCell ⟨bo, z, none⟩ (.int .u64 x2)).cell? ⟨pb, po + k * 2 + 1, none⟩ = some (.int .u64 x2)) := fun W k => by
          rw [cell_far _ _ _ _ _ hbx, cell_far _ _ _ _ _ hbx, cell_far _ _ _ _ _ hbx, cell_far _ _ _ _ _ hpb', cell_far _ _ _ _ _ hpb']
          exact HKA.out W k
        generalize zs[z]?.getD 0 = y at HKB
        clear hr hz hbq hbq' hbq2 hm2 hq3 hq4 hq0 HQQ
        have HH := Lib.hid (And.intro hw2 (And.intro hzn (And.intro hz0 (And.intro hz3 (And.intro hr2 (show IntKind.i64.wrap (x1 : Int) = (x1 : Int) from IntWalk.i64_in _ (by omega)))))))
        clear hw2 hzn hz0 hz3 hr2
        go_wp2_with fail
        obtain ⟨hw2, hzn, hz0, hz3, hr2, hwx⟩ := HH.out
        go_region_held3 (fun w' => w'.cell? ⟨bx, 0, none⟩ = some (.int .i64 g.w) ∧ w'.cell? ⟨bx, 1, none⟩ = some (.int .i64 g.i) ∧ w'.cell? ⟨bx, 2, none⟩ = some (.int .i64 g.b) ∧ w'.cell? ⟨pb, po + k * 2, none⟩ = some (.int .u8 x1) ∧ w'.cell? ⟨pb, po + k * 2 + 1, none⟩ = some (.int .u64 x2))
          (first | (exact HKA.out _ At.refl.drew) | (exact HKA.out _ hk9) | (exact HKS.out _ hk9))
          ((first
            | (go_at_call 19; (with_reducible refine (HBA.out _).mono ?_); rintro e w6 ⟨rfl, h6⟩; have hk9 := At.refl.drew.trans h6; have hcq := (HKB.out _ hk9).1; have hfr := (HKB.out _ hk9).2)))
        have HB6 := Lib.hid ((HB5.out.nw hk9.nw).far bo z (.int .u64 x2) hbx)
        have HO6 := Lib.hid ((HO5.out.nw hk9.nw).set z x2)
        have HU6 := Lib.hid ((HU5.out.nw hk9.nw).set z (.int .u64 x2))
        generalize w6.setCell ⟨bo, z, none⟩ (.int .u64 x2) = w7 at *
        clear hcq hfr p1 p2 hw2 hzn hz0 hz3 hr2 hwx h6 hk9 HKA HKS HKB HBA
        go_wp2_with fail
        go_roundw
        case rel => exact ⟨k + 1, zs.set z x2, by omega, by go_num, HB6.out, HO6.out, by rw [List.length_set]; exact HZL.out, u64_set HZU.out HX2.out, HNC.out, HU6.out⟩
        case measure => simp [intOf]; omega
    · obtain rfl : k = len := by omega
      have HII := Lib.hid HO.out.ints
      have HNr := Lib.hid (show Nw w wr from ⟨Up.below HN4.out.b HUP.out HN4.out.b.size HBO.out⟩)
      obtain ⟨i0, hi, hz0, hz1, hz2⟩ := info_parts8 info_u64
      go_upto_region 17 with (at_builtin; refine wpList_append_ints _ rfl _ _ 30 rfl wr.heap.size 39 i0 (.int .u64 0) 8 Try.underlying30 hi hz0 hz1 hz2 rfl _ 0 [] rfl (World.ownsRow_made _ #[] 0 (Nat.le_refl _) (Nat.zero_le _) (by simp)) (some ⟨bo, 0, none⟩) N N .u64 zs wr.heap.size rfl HZL.out (HII.out.below ((Below.refl _ _).alloc (Nat.le_refl _) _)) (by unfold maxLen; omega) (by omega) (by simp) ?_; intro v5 W hown hgrow; have hb5 : Below wr.heap.size wr W := ((Below.refl _ wr).alloc (Nat.le_refl _) _).grown hgrow (by simp) (fun k e => by cases e; exact Nat.le_refl _); clear hgrow; simp only [Nat.zero_add, List.nil_append] at hown)
      obtain ⟨oa, oc, rfl, hzo, hIo⟩ := Ints.of_owns hown
      have hoc : N ≤ oc := own_cap hown
      have hwW := hb5.size
      have HNW := Lib.hid (show Nw wr W from ⟨hb5⟩)
      have HOW := Lib.hid (HO.out.nw HNW.out)
      have HBW := Lib.hid (HB.out.nw HNW.out)
      have HNw0 := Lib.hid (HNr.out.trans HNW.out)
      have HIO := Lib.hid hIo
      clear hown hb5 hIo hwW hi hz0 hz1 hz2 HO HB HII HUP HNr hzo
      obtain ⟨ov, hov⟩ : ∃ ov, overL g zs = ov := ⟨_, rfl⟩
      have HOVL := Lib.hid (show ov.length = N by rw [← hov, HZC.out.over (by rw [HZL.out]; exact HOK.out), clr_len]; exact HZL.out)
      have HOVA := Lib.hid (show ov = clr zs (264 + 208 * g.w.toNat) by rw [← hov, HZC.out.over (by rw [HZL.out]; exact HOK.out)])
      have HOVU := Lib.hid (show ∀ x ∈ ov, Go.Proofs.Ytkopfnldgnkkoaa.u64 x by rw [← hov]; exact overL_u64 HZU.out)
      have HOO := Lib.hid (show overL g ov = ov by rw [← hov]; exact overL_overL g zs (by rw [HZL.out]; exact HOK.out))
      have HC1 := Lib.hid (over_any g oa N oc W.heap.size zs HZL.out hoc (by omega) HZU.out W (Nat.le_refl _) HIO.out)
      rw [hov] at HC1
      unfold OvR gV at HC1
      rw [HOVL.out] at HC1
      clear hov
      have c0 : W.cell? ⟨bx, 0, none⟩ = some (.int .i64 g.w) := HBW.out.cell rfl
      have c1 : W.cell? ⟨bx, 1, none⟩ = some (.int .i64 g.i) := HBW.out.cell rfl
      have c2 : W.cell? ⟨bx, 2, none⟩ = some (.int .i64 g.b) := HBW.out.cell rfl
      go_wp2_with fail
      (with_reducible refine HC1.out.mono ?_)
      rintro e w5 ⟨va, vc, rfl, hvc, hvI, hvN, hvS⟩
      have HNV := Lib.hid hvN
      have HVI := Lib.hid hvI
      have HIO5 := Lib.hid (Ints.nw (n := 0) hvN HIO.out)
      have HOW5 := Lib.hid (HOW.out.nw hvN)
      have HBW5 := Lib.hid (HBW.out.nw hvN)
      have HN5 := Lib.hid (HNw0.out.trans hvN)
      clear hvI hvN hvS c0 c1 c2 HC1 HOW HBW HNw0 HIO
      go_wp2_with fail
      (with_reducible refine (same_len oa N oc (some ⟨bo, 0, none⟩) N zs zs HZL.out HZL.out (by omega) _ _ HIO5.out HOW5.out.ints).mono ?_)
      rintro e w6 ⟨rfl, nd, hnd⟩
      rw [show decide (zs = zs) = true by simp]
      have h6 : Nw w5 w6 := by rw [hnd]; exact nw_drewN w5 nd
      clear hnd
      have HVI6 := Lib.hid (Ints.nw (n := 0) h6 HVI.out)
      have HOW6 := Lib.hid (HOW5.out.nw h6)
      have HBW6 := Lib.hid (HBW5.out.nw h6)
      have HN6 := Lib.hid (HN5.out.trans h6)
      clear h6 HVI HOW5 HBW5 HN5 HIO5
      have c0 : w6.cell? ⟨bx, 0, none⟩ = some (.int .i64 g.w) := HBW6.out.cell rfl
      have c1 : w6.cell? ⟨bx, 1, none⟩ = some (.int .i64 g.i) := HBW6.out.cell rfl
      have c2 : w6.cell? ⟨bx, 2, none⟩ = some (.int .i64 g.b) := HBW6.out.cell rfl
      have HC2 := Lib.hid (over_any g va N vc w6.heap.size ov HOVL.out hvc (by omega) HOVU.out w6 (Nat.le_refl _) HVI6.out)
      rw [HOO.out] at HC2
      unfold OvR gV at HC2
      rw [HOVL.out] at HC2
      go_wp2_with fail
      (with_reducible refine HC2.out.mono ?_)
      rintro e w7 ⟨ta, tc, rfl, htc, htI, h7, htS⟩
      have HTI := Lib.hid htI
      have HVI7 := Lib.hid (Ints.nw (n := 0) h7 HVI6.out)
      have HOW7 := Lib.hid (HOW6.out.nw h7)
      have HBW7 := Lib.hid (HBW6.out.nw h7)
      have HN7w := Lib.hid (HN6.out.trans h7)
      clear htI h7 htS HVI6 HOW6 HBW6 HN6 c0 c1 c2 HC2
      go_wp2_with fail
      (with_reducible refine (same_len ta N tc va vc ov ov HOVL.out HOVL.out (by omega) _ _ HTI.out HVI7.out).mono ?_)
      rintro e w8 ⟨rfl, nd, hnd⟩
      rw [show decide (ov = ov) = true by simp]
      have h8 : Nw w7 w8 := by rw [hnd]; exact nw_drewN w7 nd
      clear hnd
      have HVI8 := Lib.hid (Ints.nw (n := 0) h8 HVI7.out)
      have HOW8 := Lib.hid (HOW7.out.nw h8)
      have HBW8 := Lib.hid (HBW7.out.nw h8)
      have HN8 := Lib.hid (HN7w.out.trans h8)
      clear h8 HVI7 HOW7 HBW7 HN7w HTI
      have hNN : ¬ ((N : Int) = 0) := by omega
      go_wp2_with fail
      go_loopw [17] (fun v wq => ∃ k : Nat, k ≤ N ∧ v = .int .i64 k ∧ Nw w8 wq) (fun v _ => N - (intOf v).toNat)
      case atStart => exact ⟨0, Nat.zero_le _, rfl, Nw.refl⟩
      case round =>
        obtain ⟨j, hj, rfl, hnr⟩ := hrel
        have HBr := Lib.hid (HBW8.out.nw hnr)
        have HNr := Lib.hid hnr
        have c0 : wr.cell? ⟨bx, 0, none⟩ = some (.int .i64 g.w) := HBr.out.cell rfl
        have c1 : wr.cell? ⟨bx, 1, none⟩ = some (.int .i64 g.i) := HBr.out.cell rfl
        have c2 : wr.cell? ⟨bx, 2, none⟩ = some (.int .i64 g.b) := HBr.out.cell rfl
        clear hnr
        by_cases hjN : j < N
        · have HWA := Lib.hid (where_area HM.out (x := (j : Int)) (by omega) (by rw [HN7.out]; omega))
          have HWC := Lib.hid (where_any g (j : Int) (by omega) (At.refl (w := wr)))
          unfold four gV at HWC
          obtain ⟨⟨y1, y2, y3, y4⟩, hy⟩ : ∃ y, whereV g (j : Int) = y := ⟨_, rfl⟩
          rw [hy] at HWA HWC
          dsimp only at HWA HWC
          clear hy
          have hj0 : (j : Int) < (N : Int) := by omega
          have hjn : (0 : Int) ≤ (j : Int) := by omega
          go_wp2_with fail
          (with_reducible refine HWC.out.mono ?_)
          rintro e w9 ⟨rfl, h9⟩
          have hn9 := HNr.out.trans h9.nw
          have HN9 := Lib.hid hn9
          have p1 : w9.cell? ⟨bo, j, none⟩ = some (.int .u64 (zs[j]?.getD 0)) := (HOW8.out.nw hn9).at_ j (by rw [HZL.out]; exact hjN)
          obtain ⟨vb, vo, rfl, _, p2⟩ := (Ints.nw (n := 0) hn9 HVI8.out).at (j := j) (by rw [HOVL.out]; exact hjN)
          clear h9 hn9 c0 c1 c2 HBr HNr HWC
          have HOJ := Lib.hid (show ov[j]'(by rw [HOVL.out]; exact hjN) = if 264 ≤ j ∧ j < 264 + 208 * g.w.toNat then 0 else zs[j]?.getD 0 by
            have h := clr_at zs (264 + 208 * g.w.toNat) j
            rw [← HOVA.out, List.getElem?_eq_getElem (by rw [HOVL.out]; exact hjN), List.getElem?_eq_getElem (by rw [HZL.out]; exact hjN)] at h
            rw [List.getElem?_eq_getElem (by rw [HZL.out]; exact hjN)]
            exact Option.some.inj h)
          rw [HOJ.out] at p2
          generalize zs[j]?.getD 0 = zv at *
          clear HOJ
          by_cases har : 264 ≤ j ∧ j < 264 + 208 * g.w.toNat
          · rw [if_pos har] at p2
            obtain rfl : y1 = 5 := HWA.out.2 (by omega)
            clear HWA har
            go_wp2_with fail
            go_roundw
            case rel => exact ⟨j + 1, by omega, by go_num, HN9.out⟩
            case measure => simp [intOf]; omega
          · rw [if_neg har] at p2
            have hy5 : ¬ y1 = 5 := fun h => har (by have := HWA.out.1 h; omega)
            clear HWA har
            go_wp2_with fail
            go_roundw
            case rel => exact ⟨j + 1, by omega, by go_num, HN9.out⟩
            case measure => simp [intOf]; omega
        · obtain rfl : j = N := by omega
          obtain ⟨r, hr⟩ : ∃ r, r = cut % 8 := ⟨_, rfl⟩
          obtain ⟨M, hM⟩ : ∃ M, M = j - 1 - r := ⟨_, rfl⟩
          have hj280 : 280 ≤ (j : Int) := by have := HN7.out; simp only [atN] at this; omega
          have hr8 : r < 8 := by omega
          have hMj : M < j := by omega
          have HOV : Hid (∀ W, Calls Try.prog 20 #[.agg #[.int .i64 g.w, .int .i64 g.i, .int .i64 g.b], .slice (some ⟨bo, 0, none⟩) M j] W fun e w' => ∃ a c, e = .returned (.slice a 0 c) ∧ Nw W w') := fun W => by
            have hno : ¬ ovOk g M := fun h => by have h1 := h.2; rw [HWV.out] at h1; omega
            refine (over_nil g (some ⟨bo, 0, none⟩) M j hno W).mono ?_
            rintro e w' ⟨a, c, he, _, _, hn, _⟩
            exact ⟨a, c, he, hn⟩
          have HH := Lib.hid (And.intro (show IntKind.i64.wrap ((j : Int) - 1) = (j : Int) - 1 from IntWalk.i64_in _ (by omega)) (And.intro (show IntKind.i64.wrap ((j : Int) - 1 - (r : Int)) = (M : Int) by rw [show (j : Int) - 1 - (r : Int) = (M : Int) by omega]; exact IntWalk.i64_in _ (by omega)) (And.intro (show (M : Int) ≤ (j : Int) by omega) (And.intro (show (0 : Int) ≤ (M : Int) by omega) (And.intro (show ((M : Int)).toNat = M by omega) (And.intro (show (cut : Int).tmod 8 = (r : Int) by rw [Int.tmod_eq_emod_of_nonneg (by omega)]; omega) (show IntKind.i64.wrap (cut : Int) = (cut : Int) from IntWalk.i64_in _ (by omega))))))))
          have HK9 : Hid (∀ W, Nw wr W → W.cell? ⟨bx, 0, none⟩ = some (.int .i64 g.w) ∧ W.cell? ⟨bx, 1, none⟩ = some (.int .i64 g.i) ∧ W.cell? ⟨bx, 2, none⟩ = some (.int .i64 g.b) ∧ Nw wr W) :=
            fun W k => ⟨(HBr.out.nw k).cell rfl, (HBr.out.nw k).cell rfl, (HBr.out.nw k).cell rfl, k⟩
          have HNE := Lib.hid (HN8.out.trans HNr.out)
          clear hr hM hr8 hMj HBr HNr HVI8 HOW8 HBW8 HN8
          go_wp2_with fail
          obtain ⟨hw1, hw2, hzn, hz0, hz3, hr2, hwx⟩ := HH.out
          go_region_held3 (fun w' => w'.cell? ⟨bx, 0, none⟩ = some (.int .i64 g.w) ∧ w'.cell? ⟨bx, 1, none⟩ = some (.int .i64 g.i) ∧ w'.cell? ⟨bx, 2, none⟩ = some (.int .i64 g.b) ∧ Nw wr w')
            (first | (exact HK9.out _ Nw.refl.drew) | (exact HK9.out _ hk9))
            ((first
              | (go_at_call 20; (with_reducible refine (HOV.out _).mono ?_); rintro e w6 ⟨a6, c6, rfl, h6⟩; have hk9 := (Nw.refl (w := wr)).drew.trans h6)
              | (go_at_call 7; refine (works_any _).mono ?_; rintro e w7 ⟨rfl, h7⟩; have hk9 := hk9.trans h7)))
          have HF := Lib.hid (HNE.out.trans hk9)
          clear hk9 h6 h7
          go_wp2_with fail
          go_ret
          exact ⟨rfl, HF.out.b⟩
end Go.Proofs.Ytkopfnldgnkkoaa
