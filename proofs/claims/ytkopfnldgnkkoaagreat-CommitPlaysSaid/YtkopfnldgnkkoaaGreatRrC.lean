import Derived.Test.YtkopfnldgnkkoaaGreatCmP
import Derived.Test.YtkopfnldgnkkoaaGreatRwF
import Derived.Test.YtkopfnldgnkkoaaGreatOvH
import Derived.Deep.RegionHeld3
import Derived.Deep.RegionHeldLaw

/-
  THE DOCUMENT's RUNS: steps as rows of cells; flushes, mark, clears, from.
-/
namespace Go.Proofs.YtkopfnldgnkkoaaGreat
open Go.RowKit Go.Shelf
set_option linter.unusedVariables false

/-- The cells of a step. -/
def stC (s : St) : List Value := match s.o with
  | .store x v => [.int .i64 s.p, .int .i64 0, .int .i64 x, .int .u64 v]
  | .flush l => [.int .i64 s.p, .int .i64 1, .int .i64 l, .int .u64 0]
  | .fence => [.int .i64 s.p, .int .i64 2, .int .i64 0, .int .u64 0]
def stR (L : List St) : List Value := L.flatMap stC
theorem stC_len (s : St) : (stC s).length = 4 := by unfold stC; split <;> rfl
theorem stR_len (L : List St) : (stR L).length = L.length * 4 := by
  induction L with
  | nil => rfl
  | cons s L ih => show (stC s ++ stR L).length = _; rw [List.length_append, stC_len, ih, List.length_cons]; omega
theorem stR_append (L M : List St) : stR (L ++ M) = stR L ++ stR M := by simp [stR]
theorem stR_snoc (L : List St) (s : St) : stR (L ++ [s]) = stR L ++ stC s := by simp [stR]
theorem stC_one (s : St) : ∀ u ∈ stC s, u.oneCell' = true := by
  intro u hu
  unfold stC at hu
  split at hu <;> simp at hu <;> rcases hu with rfl | rfl | rfl | rfl <;> rfl
theorem stR_one (L : List St) : ∀ u ∈ stR L, u.oneCell' = true := by
  intro u hu
  obtain ⟨s, _, hs⟩ := List.mem_flatMap.1 hu
  exact stC_one s u hs
theorem four_cells (W : World) (x y z v : Value) (t : TypeId) : ∀ j u, [x, y, z, v][j]? = some u → (W.alloc (.cells #[x, y, z, v] t)).cell? (Addr.add ⟨W.heap.size, 0, none⟩ j) = some u := by
  intro j u h
  rw [Addr.add_lit, World.cell?_alloc_new]
  match j, h with
  | 0, h | 1, h | 2, h | 3, h => simpa using h
  | j + 4, h => simp at h
theorem info_st : (Tryz.prog.info? 115).map (fun i => (i.zero, i.size, i.bytes)) = some (some (.agg #[.int .i64 0, .int .i64 0, .int .i64 0, .int .u64 0]), 4, 32) := by kernel_rfl
/-- Steps in a row of their own. -/
def OwnS (w : World) (L : List St) (e : Ending) (w' : World) : Prop :=
  ∃ v, e = .returned v ∧ w'.ownsRow w.heap.size 115 4 v L.length (stR L) ∧ Nw w w'
/-- Where they lie. -/
theorem own_st {w : World} {base : Nat} {v : Value} {L : List St} (h : w.ownsRow base 115 4 v L.length (stR L)) (h0 : 0 < L.length) :
    ∃ b c, v = .slice (some ⟨b, 0, none⟩) L.length c ∧ L.length ≤ c ∧ base ≤ b ∧ b < w.heap.size ∧ ∀ j u, (stR L)[j]? = some u → w.cell? (Addr.add ⟨b, 0, none⟩ j) = some u := by
  rcases h.2 with ⟨_, h1⟩ | ⟨g, cap, cur, rfl, hg, hh, hn, _⟩
  · omega
  · refine ⟨g, cap, rfl, hn, hg, (Array.getElem?_eq_some_iff.1 hh).1, fun j u hj => ?_⟩
    have hlt := (List.getElem?_eq_some_iff.1 hj).1
    rw [stR_len] at hlt
    rw [Addr.add_lit, Nat.zero_add, h.cellAt j hlt]
    exact hj

/-- The lines ahead of the k-th. -/
def linesTo (zs : List Int) (k : Nat) : List Int := ((List.range k).filter fun (j : Nat) => decide ((j : Int) ∈ zs)).map fun (j : Nat) => (j : Int)
theorem linesTo_zero (zs : List Int) : linesTo zs 0 = [] := rfl
theorem linesTo_all (zs : List Int) : linesTo zs 8192 = linesOf zs := rfl
theorem linesTo_yes {zs : List Int} {k : Nat} (h : (k : Int) ∈ zs) : linesTo zs (k + 1) = linesTo zs k ++ [(k : Int)] := by
  unfold linesTo
  rw [List.range_succ, List.filter_append, List.map_append]
  simp [h]
theorem linesTo_no {zs : List Int} {k : Nat} (h : (k : Int) ∉ zs) : linesTo zs (k + 1) = linesTo zs k := by
  unfold linesTo
  rw [List.range_succ, List.filter_append, List.map_append]
  simp [h]
theorem linesTo_le (zs : List Int) (k : Nat) : (linesTo zs k).length ≤ k := by
  unfold linesTo
  rw [List.length_map]
  exact Nat.le_trans (List.length_filter_le _ _) (by simp)
def settleZ (p : Int) (zs : List Int) : List St := flushL9 p (linesOf (zs.map (· / 8))) ++ [⟨p, .fence⟩]
theorem settleZ_le (p : Int) (zs : List Int) : (settleZ p zs).length ≤ 8193 := by
  unfold settleZ
  rw [List.length_append, flushL9_len]
  have := linesOf_le (zs.map (· / 8))
  simp; omega
theorem settleZ_pos (p : Int) (zs : List Int) : 0 < (settleZ p zs).length := by unfold settleZ; simp
theorem settleZ_w (p : Int) (l : List Wr) : settleZ p (l.map (·.1)) = settleL p l := by
  unfold settleZ settleL lineL
  rw [List.map_map]; rfl

set_option maxRecDepth 100000 in
set_option maxHeartbeats 8000000 in
theorem flushes_any (p : Int) (a : Option Addr) (n c n₀ : Nat) (zs : List Int) (hx : zs.length = n) (hn : n ≤ 100000) (hz : ∀ z ∈ zs, 0 ≤ z ∧ z < 65536) (w : World) (hn₀ : n₀ ≤ w.heap.size) (hI : Ints n₀ .i64 w a zs) :
    Calls Tryz.prog 62 #[.int .i64 p, .slice a n c] w (OwnS w (settleZ p zs)) := by
  obtain ⟨i0, hi, hz0, hz1, hz2⟩ := info_parts8 info_st
  have HX := Lib.hid hx
  have HZ := Lib.hid hz
  have HI := Lib.hid (hI.mono hn₀)
  have HSE : Hid (settleZ p zs = flushL9 p (linesOf (zs.map (· / 8))) ++ [⟨p, .fence⟩]) := rfl
  clear hI hx hz
  go_enter Tryz.func62, Tryz.ntmps62
  go_wp2_with fail
  go_loopw [6, 5] (fun i v wq => ∃ k : Nat, k ≤ 8192 ∧ i = .int .i64 k ∧ Nw w wq ∧ wq.ownsRow w.heap.size 115 4 v (linesTo (zs.map (· / 8)) k).length (stR (flushL9 p (linesTo (zs.map (· / 8)) k)))) (fun i _ _ => 8192 - (intOf i).toNat)
  case atStart => exact ⟨0, Nat.zero_le _, rfl, Nw.refl, rfl, .inl ⟨rfl, rfl⟩⟩
  case round =>
    obtain ⟨k, hk, rfl, hN, how⟩ := hrel
    have HN := Lib.hid hN
    have HOW := Lib.hid how
    have hlk := linesTo_le (zs.map (· / 8)) k
    have hs1 := hN.b.size
    by_cases hk2 : k < 8192
    · have hki : (k : Int) < 8192 := by omega
      have hk0 : (0 : Int) ≤ (k : Int) := by omega
      have HIr := Lib.hid (HI.out.below hN.b)
      have HY := Lib.hid (fun h => linesTo_yes (zs := zs.map (· / 8)) (k := k) h)
      have HNO := Lib.hid (fun h => linesTo_no (zs := zs.map (· / 8)) (k := k) h)
      obtain ⟨Y, hY⟩ : ∃ Y, linesTo (zs.map (· / 8)) k = Y := ⟨_, rfl⟩
      rw [hY] at HOW HY HNO hlk
      obtain ⟨m, hmm⟩ : ∃ m, Y.length = m := ⟨_, rfl⟩
      rw [hmm] at HOW hlk
      have HML := Lib.hid hmm
      obtain ⟨va, vc, rfl⟩ := own_slice HOW.out
      clear hN how hY hmm
      go_wp2_with fail
      go_loopw [7, 5] (fun i v wq => ∃ q : Nat, q ≤ n ∧ i = .int .i64 q ∧ (∀ z ∈ zs.take q, z / 8 ≠ (k : Int)) ∧ v = .slice va m vc ∧ wq = wr) (fun i _ _ => n - (intOf i).toNat)
      case atStart => exact ⟨0, Nat.zero_le _, rfl, by simp, rfl, rfl⟩
      case round =>
        obtain ⟨q, hq, rfl, hno, rfl, hww⟩ := hrel
        have HNN := Lib.hid hno
        subst hww
        by_cases hqn : q < n
        · have hqz : q < zs.length := by rw [HX.out]; exact hqn
          obtain ⟨zb, zo, rfl, hzb, p1⟩ := HIr.out.at hqz
          have hzz := HZ.out _ (List.getElem_mem hqz)
          have HTK := Lib.hid (List.take_succ_eq_append_getElem hqz)
          have HMEM := Lib.hid (List.getElem_mem hqz)
          generalize zs[q] = y at *
          obtain ⟨t, ht, ht2, ht3⟩ : ∃ t : Nat, y.tdiv 8 = (t : Int) ∧ y / 8 = (t : Int) ∧ (t : Int) ≤ 8192 := ⟨(y / 8).toNat, by rw [Int.tdiv_eq_ediv_of_nonneg hzz.1]; omega, by omega, by omega⟩
          have HT2 := Lib.hid ht2
          have hq0 : (q : Int) < (n : Int) := by omega
          have hqn0 : (0 : Int) ≤ (q : Int) := by omega
          clear hno ht2 hzz
          by_cases htk : t = k
          · subst htk
            have HA := Lib.hid (HY.out (List.mem_map.2 ⟨y, HMEM.out, HT2.out⟩))
            have htt : ((t : Int) == (t : Int)) = true := by simp
            go_wp2_with (at_builtin; go_loud (refine wpList_append_own _ rfl (.tmp 25) (.tmp 29) 56 rfl w.heap.size 115 i0 (.agg #[.int .i64 0, .int .i64 0, .int .i64 0, .int .u64 0]) 4 32 Tryz.underlying56 hi hz0 hz1 hz2 rfl (by decide) _ _ _ rfl (HOW.out.alloc _) ⟨wr.heap.size, 0, none⟩ 1 1 [.int .i64 p, .int .i64 1, .int .i64 (t : Int), .int .u64 0] rfl rfl (four_cells _ _ _ _ _ _) (by intro u hu; simp at hu; rcases hu with rfl | rfl | rfl | rfl <;> rfl) (by unfold maxLen; omega) (by omega) (by simp; omega) ?_); intro v3 w3 hown3 hgrow3 _; have hb3 : Below w.heap.size w w3 := Below.grownRow (HN.out.b.alloc hs1 _) hgrow3 (by simp; omega) (HOW.out.alloc _) (Nat.le_refl _); clear hgrow3; have HO3 := Lib.hid hown3; clear hown3)
            go_roundw
            case rel => exact ⟨t + 1, by omega, by go_num, ⟨hb3⟩, by
              rw [HA.out, List.length_append, HML.out]
              have h := HO3.out
              rw [show flushL9 p (Y ++ [(t : Int)]) = flushL9 p Y ++ [⟨p, .flush (t : Int)⟩] by simp [flushL9], stR_snoc]
              exact h⟩
            case measure => simp [intOf]; omega
          · have hne : ((t : Int) == (k : Int)) = false := by rw [beq_eq_false_iff_ne]; omega
            have hno2 : ∀ z ∈ zs.take (q + 1), z / 8 ≠ (k : Int) := fun z hz => by
              rw [HTK.out] at hz
              rcases List.mem_append.1 hz with hz | hz
              · exact HNN.out z hz
              · rw [List.mem_singleton.1 hz, HT2.out]; omega
            have HN2 := Lib.hid hno2
            clear hno2 htk
            go_wp2_with fail
            go_roundw
            case rel => exact ⟨q + 1, by omega, by go_num, HN2.out, rfl, trivial⟩
            case measure => simp [intOf]; omega
        · obtain rfl : q = n := by omega
          have HA := Lib.hid (HNO.out (fun h => by
            obtain ⟨z, hz, e⟩ := List.mem_map.1 h
            exact hno z (by rw [List.take_of_length_le (by rw [HX.out]; exact Nat.le_refl _)]; exact hz) e))
          clear hno
          go_wp2_with fail
          go_roundw
          case rel => exact ⟨k + 1, by omega, by go_num, HN.out, by rw [HA.out, HML.out]; exact HOW.out⟩
          case measure => simp [intOf]; omega
    · obtain rfl : k = 8192 := by omega
      rw [linesTo_all] at how hlk HOW
      obtain ⟨Y, hY⟩ : ∃ Y, linesOf (zs.map (· / 8)) = Y := ⟨_, rfl⟩
      rw [hY] at HOW how hlk HSE
      obtain ⟨m, hmm⟩ : ∃ m, Y.length = m := ⟨_, rfl⟩
      rw [hmm] at HOW how hlk
      have HML := Lib.hid hmm
      obtain ⟨va, vc, rfl⟩ := own_slice HOW.out
      clear hN how hY hmm
      go_wp2_with (at_builtin; go_loud (refine wpList_append_own _ rfl (.tmp 31) (.tmp 34) 56 rfl w.heap.size 115 i0 (.agg #[.int .i64 0, .int .i64 0, .int .i64 0, .int .u64 0]) 4 32 Tryz.underlying56 hi hz0 hz1 hz2 rfl (by decide) _ _ _ rfl (HOW.out.alloc _) ⟨wr.heap.size, 0, none⟩ 1 1 [.int .i64 p, .int .i64 2, .int .i64 0, .int .u64 0] rfl rfl (four_cells _ _ _ _ _ _) (by intro u hu; simp at hu; rcases hu with rfl | rfl | rfl | rfl <;> rfl) (by unfold maxLen; omega) (by omega) (by simp; omega) ?_); intro v3 w3 hown3 hgrow3 _; have hb3 : Below w.heap.size w w3 := Below.grownRow (HN.out.b.alloc hs1 _) hgrow3 (by simp; omega) (HOW.out.alloc _) (Nat.le_refl _); clear hgrow3; have HO3 := Lib.hid hown3; clear hown3)
      go_ret
      refine ⟨v3, rfl, ?_, ⟨hb3⟩⟩
      rw [HSE.out, List.length_append, flushL9_len, HML.out, stR_snoc]
      exact HO3.out
end Go.Proofs.YtkopfnldgnkkoaaGreat

/-
  THE DOCUMENT's RUNS: what a run is in memory; mark, clears.
-/
namespace Go.Proofs.YtkopfnldgnkkoaaGreat
open Go.RowKit Go.Shelf
set_option linter.unusedVariables false

/-- A run of the document's. -/
structure RRunAt (W : World) (r d : Nat) (g : G) (k : Nat) (L : List St) (a : Option Addr) : Prop where
  k : ∃ c, Blk W r #[.pointer (some ⟨d, 0, none⟩), .int .i64 g.w, .int .i64 g.i, .int .i64 g.b, .int .i64 (k : Int), .slice a L.length c] 58 ∧ L.length ≤ c ∧ Qs W 115 4 a c (stR L)
section
variable {W W' : World} {r d : Nat} {g : G} {k : Nat} {L : List St} {a : Option Addr}
theorem RRunAt.tag (h : RRunAt W r d g k L a) : Tag W r 58 := by obtain ⟨c, hk, _⟩ := h.k; exact hk.tag
theorem RRunAt.qtag (h : RRunAt W r d g k L a) {x : Nat} (hx : QB a x) : Tag W x 115 := by
  obtain ⟨c, _, _, hq⟩ := h.k
  obtain ⟨p, hp, rfl⟩ := hx
  exact hq.tag hp
theorem RRunAt.not_own (h : RRunAt W r d g k L a) {x : Nat} {t : TypeId} (hx : Tag W x t) (h1 : t ≠ 58) (h2 : t ≠ 115) : ¬ OwnR9 r a x := by
  rintro (rfl | hq)
  · exact hx.ne h.tag h1 rfl
  · exact hx.ne (h.qtag hq) h2 rfl
theorem RRunAt.own_lt (h : RRunAt W r d g k L a) {x : Nat} (hx : OwnR9 r a x) : x < W.heap.size := by
  rcases hx with rfl | hx
  · exact h.tag.lt
  · exact (h.qtag hx).lt
theorem RRunAt.upo {O : Nat → Prop} (h : RRunAt W r d g k L a) (u : UpO O W W') (hr : ¬ O r) (ha : ∀ x, QB a x → ¬ O x) : RRunAt W' r d g k L a := by
  obtain ⟨c, hk, hl, hq⟩ := h.k
  exact ⟨c, u.blk hk hr, hl, hq.upo u (fun p hp => ha _ ⟨p, hp, rfl⟩)⟩
theorem RRunAt.nw (h : RRunAt W r d g k L a) (u : Nw W W') : RRunAt W' r d g k L a := h.upo (O := fun _ => False) (.of_nw u) (fun h => h) (fun _ _ h => h)
end
theorem own_four (w : World) (x y z v : Value) (t : TypeId) : (w.alloc (.cells #[x, y, z, v] t)).ownsRow w.heap.size t 4 (.slice (some ⟨w.heap.size, 0, none⟩) 1 1) 1 [x, y, z, v] :=
  ⟨by simp, .inr ⟨w.heap.size, 1, #[x, y, z, v], rfl, Nat.le_refl _, heap_alloc_new w _, Nat.le_refl _, by decide, rfl, by simp⟩⟩
theorem own_mono {w : World} {b0 b1 : Nat} (hb : b0 ≤ b1) {e : TypeId} {sz : Nat} {v : Value} {n : Nat} {xs : List Value} (h : w.ownsRow b1 e sz v n xs) : w.ownsRow b0 e sz v n xs := by
  refine ⟨h.1, h.2.imp id ?_⟩
  rintro ⟨g, cap, cur, hv, hg, r⟩
  exact ⟨g, cap, cur, hv, by omega, r⟩
theorem markL_eq (p A v : Int) : markL p A v = [⟨p, .store A v⟩] ++ settleZ p [A] := by
  unfold markL bothL
  rw [show ([A] : List Int) = [(A, v)].map (·.1) from rfl, settleZ_w]
  rfl

set_option maxRecDepth 100000 in
set_option maxHeartbeats 8000000 in
theorem rrmark_any (r d : Nat) (g : G) (k : Nat) (L : List St) (a : Option Addr) (hm : mayP g) (hk : (k : Int) < g.w) (p v : Int) (w : World) (h : RRunAt w r d g k L a) :
    Calls Tryz.prog 63 #[.pointer (some ⟨r, 0, none⟩), .int .i64 p, .int .u64 v] w (OwnS w (markL p (264 + 208 * (k : Int)) v)) := by
  obtain ⟨i0, hi, hz0, hz1, hz2⟩ := info_parts8 info_st
  obtain ⟨c, hb, _, _⟩ := h.k
  have HB := Lib.hid hb
  have hk4 : (k : Int) ≤ 4 := by have := hm.2.1; omega
  obtain ⟨A, hA⟩ : ∃ A : Nat, (264 + 208 * (k : Int)) = (A : Int) := ⟨264 + 208 * k, by omega⟩
  have hAb : (A : Int) ≤ 5000 := by omega
  have HAR : Hid (∀ W, Calls Tryz.prog 52 #[.agg #[.int .i64 g.w, .int .i64 g.i, .int .i64 g.b], .int .i64 (k : Int)] W fun e w' => e = .returned (.int .i64 A) ∧ At W w') := fun W => by
    have := rarea_at g k (w0 := W) (w := W) At.refl
    rw [show placeV g 2 (k : Int) = 264 + 208 * (k : Int) from (if_pos ⟨hm, by omega, by simp only [manyN]; omega⟩ : placeV g 2 (k : Int) = atN g 2 + sizeN 2 * k).trans (by simp only [atN, sizeN]), hA] at this
    exact this
  rw [hA]
  have HK9 : Hid (∀ W, Nw w W → W.cell? ⟨r, 1, none⟩ = some (.int .i64 g.w) ∧ W.cell? ⟨r, 2, none⟩ = some (.int .i64 g.i) ∧ W.cell? ⟨r, 3, none⟩ = some (.int .i64 g.b) ∧ W.cell? ⟨r, 4, none⟩ = some (.int .i64 (k : Int))) :=
    fun W q => ⟨(HB.out.nw q).cell rfl, (HB.out.nw q).cell rfl, (HB.out.nw q).cell rfl, (HB.out.nw q).cell rfl⟩
  clear h hb hA
  obtain ⟨c1, c2, c3, c4⟩ := HK9.out w Nw.refl
  go_enter Tryz.func63, Tryz.ntmps63
  go_wp2_with fail
  go_region_held3 (fun w' => w'.cell? ⟨r, 1, none⟩ = some (.int .i64 g.w) ∧ w'.cell? ⟨r, 2, none⟩ = some (.int .i64 g.i) ∧ w'.cell? ⟨r, 3, none⟩ = some (.int .i64 g.b) ∧ w'.cell? ⟨r, 4, none⟩ = some (.int .i64 (k : Int)))
    (first | (exact HK9.out _ Nw.refl.drew) | (exact HK9.out _ hk9))
    ((first
      | (go_at_call 52; (with_reducible refine (HAR.out _).mono ?_); rintro e w6 ⟨rfl, h6⟩; have hk9 := (Nw.refl (w := w)).drew.trans h6.nw)))
  have HN6 := Lib.hid hk9
  have hs6 := hk9.b.size
  have HOW := Lib.hid (own_mono hs6 (own_four w6 (.int .i64 p) (.int .i64 0) (.int .i64 (A : Int)) (.int .u64 v) 115))
  have hn7 := (Nw.refl (w := w6)).alloc (.cells #[.int .i64 p, .int .i64 0, .int .i64 (A : Int), .int .u64 v] 115)
  have HN7 := Lib.hid (hk9.trans hn7)
  clear c1 c2 c3 c4 h6 hk9 HK9 HAR HB
  go_upto_region 3 with fail
  generalize hb7 : w6.heap.size = b7 at *
  generalize w6.alloc (.cells #[.int .i64 p, .int .i64 0, .int .i64 (A : Int), .int .u64 v] 115) = w7 at *
  have HFL := Lib.hid (flushes_any p (some ⟨w7.heap.size, 0, none⟩) 1 1 (w7.heap.size + 1) [(A : Int)] rfl (by omega) (fun z hz => by rw [List.mem_singleton.1 hz]; omega) (w7.alloc (.cells #[.int .i64 (A : Int)] 3)) (by simp) (Ints.one .i64 w7 (A : Int) 3))
  have hn8 := (Nw.refl (w := w7)).alloc (.cells #[.int .i64 (A : Int)] 3)
  have hF1 := settleZ_le p [(A : Int)]
  have hF2 := settleZ_pos p [(A : Int)]
  have HME := Lib.hid (markL_eq p (A : Int) v)
  unfold OwnS at HFL
  generalize settleZ p [(A : Int)] = F at *
  go_wp2_with fail
  (with_reducible refine HFL.out.mono ?_)
  rintro e w9 ⟨fv, rfl, hfo, hn9⟩
  obtain ⟨fb, fc, rfl, hfc, hfb, hfl, hfcell⟩ := own_st hfo hF2
  have HN9 := Lib.hid ((HN7.out.trans hn8).trans hn9)
  have HOW9 := Lib.hid (own_below (hn8.trans hn9).b HOW.out)
  have hs9 := HN9.out.b.size
  have hlF := stR_len F
  generalize hFn : F.length = nF at *
  clear hn7 hn8 hn9 hfo hfb hfl
  go_wp2_with (at_builtin; go_loud (refine wpList_append_own _ rfl (.tmp 23) (.tmp 27) 56 rfl w.heap.size 115 i0 (.agg #[.int .i64 0, .int .i64 0, .int .i64 0, .int .u64 0]) 4 32 Tryz.underlying56 hi hz0 hz1 hz2 rfl (by decide) _ _ _ rfl HOW9.out ⟨fb, 0, none⟩ nF fc (stR F) rfl hlF hfcell (stR_one F) (by unfold maxLen; omega) (by omega) hs9 ?_); intro v3 w3 hown3 hgrow3 _; have hb3 : Below w.heap.size w w3 := Below.grownRow HN9.out.b hgrow3 hs9 HOW9.out (Nat.le_refl _); clear hgrow3)
  go_ret
  refine ⟨v3, rfl, ?_, ⟨hb3⟩⟩
  rw [HME.out, List.length_append, stR_append, hFn]
  exact hown3
theorem clears_any (r d : Nat) (g : G) (k : Nat) (L : List St) (a : Option Addr) (hm : mayP g) (hk : (k : Int) < g.w) (w : World) (h : RRunAt w r d g k L a) :
    Calls Tryz.prog 68 #[.pointer (some ⟨r, 0, none⟩)] w (OwnS w (markL 6 (264 + 208 * (k : Int)) 0)) := by
  have HM := Lib.hid (rrmark_any r d g k L a hm hk 6 0 w h)
  unfold OwnS at HM ⊢
  clear h
  go_enter Tryz.func68, Tryz.ntmps68
  go_wp2_with fail
  (with_reducible refine HM.out.mono ?_)
  rintro e w1 ⟨v, rfl, ho, hn⟩
  go_wp2_with fail
  go_ret
  exact ⟨v, rfl, ho, hn⟩
end Go.Proofs.YtkopfnldgnkkoaaGreat

/-
  THE DOCUMENT's RUNS: from.
-/
namespace Go.Proofs.YtkopfnldgnkkoaaGreat
open Go.RowKit Go.Shelf
set_option linter.unusedVariables false

theorem own_grown {w w' : World} {b0 b1 n0 n1 s0 s1 : Nat} {e0 e1 : TypeId} {u v : Value} {xs ys : List Value} (h : w.ownsRow b0 e0 s0 u n0 xs) (hg : w.grownBy w' v.ownBlock) (ho : w.ownsRow b1 e1 s1 v n1 ys) (ht : e0 ≠ e1) : w'.ownsRow b0 e0 s0 u n0 xs := by
  refine ⟨h.1, h.2.imp id ?_⟩
  rintro ⟨g, cap, cur, hv, hgb, hh, r⟩
  exact ⟨g, cap, cur, hv, hgb, grown_blk hh hg ho ht, r⟩
set_option maxRecDepth 100000 in
set_option maxHeartbeats 8000000 in
theorem from_any (r d : Nat) (g : G) (k : Nat) (L : List St) (a : Option Addr) (hm : mayP g) (hk : (k : Int) < g.w) (la : Option Addr) (n lc n₀ : Nat) (l : List Wr) (hl : l.length = n) (hn : n ≤ 1000) (hx : ∀ x ∈ l, 0 ≤ x.1 ∧ x.1 < 65536) (w : World) (hn₀ : n₀ ≤ w.heap.size) (hP : Pairs .i64 .u64 n₀ w la l) (h : RRunAt w r d g k L a) :
    Calls Tryz.prog 65 #[.pointer (some ⟨r, 0, none⟩), .slice la n lc] w (OwnS w (applyL (264 + 208 * (k : Int)) l)) := by
  obtain ⟨i0, hi, hz0, hz1, hz2⟩ := info_parts8 info_st
  obtain ⟨j0, hj, hy0, hy1, hy2⟩ := info_parts8 info_int
  have HL := Lib.hid hl
  have HXB := Lib.hid hx
  have HP := Lib.hid (hP.mono hn₀)
  have HR := Lib.hid h
  clear h hP hx hl
  go_enter Tryz.func65, Tryz.ntmps65
  go_wp2_with fail
  go_loopw [7, 5, 6] (fun i v t wq => ∃ q : Nat, q ≤ n ∧ i = .int .i64 q ∧ Nw w wq ∧ wq.ownsRow w.heap.size 115 4 v q (stR (storeL 4 (l.take q))) ∧ wq.ownsRow w.heap.size 3 1 t q (((l.take q).map (·.1)).map (.int .i64))) (fun i _ _ _ => n - (intOf i).toNat)
  case atStart => exact ⟨0, Nat.zero_le _, rfl, Nw.refl, ⟨rfl, .inl ⟨rfl, rfl⟩⟩, ⟨rfl, .inl ⟨rfl, rfl⟩⟩⟩
  case round =>
    obtain ⟨q, hq, rfl, hN, ho1, ho2⟩ := hrel
    have HN := Lib.hid hN
    have HO1 := Lib.hid ho1
    have HO2 := Lib.hid ho2
    obtain ⟨va, vc, rfl⟩ := own_slice ho1
    obtain ⟨ta, tc, rfl⟩ := own_slice ho2
    have hs1 := hN.b.size
    by_cases hqn : q < n
    · have hql : q < l.length := by rw [HL.out]; exact hqn
      obtain ⟨pb, po, rfl, f1, f2⟩ := Pairs.at (HP.out.below hN.b) hql
      have HS := Lib.hid (storeL_take (p := 4) hql)
      have HT := Lib.hid (List.take_succ_eq_append_getElem hql)
      obtain ⟨x, hxe⟩ : ∃ x, l[q] = x := ⟨_, rfl⟩
      rw [hxe] at f1 f2 HS HT
      obtain ⟨x1, x2⟩ := x
      dsimp only at f1 f2 HS HT
      have hq0 : (q : Int) < (n : Int) := by omega
      have hqn0 : (0 : Int) ≤ (q : Int) := by omega
      obtain ⟨hc1, hc2, hbn⟩ : w.cell? ⟨pb, po + q * 2, none⟩ = some (.int .i64 x1) ∧ w.cell? ⟨pb, po + q * 2 + 1, none⟩ = some (.int .u64 x2) ∧ pb < w.heap.size := by
        obtain ⟨pb', po', e', g1, g2⟩ := Pairs.at HP.out hql
        simp only [Option.some.injEq, Addr.mk.injEq, and_true] at e'
        obtain ⟨rfl, rfl⟩ := e'
        rw [hxe] at g1 g2
        exact ⟨g1, g2, (cell_lt g1).1⟩
      have HC1 := Lib.hid hc1
      have HC2 := Lib.hid hc2
      have HBN := Lib.hid hbn
      have HROW := Lib.hid ((own_below (Nw.refl (w := wr)).drew.b HO1.out).alloc (.cells #[.int .i64 4, .int .i64 0, .int .i64 x1, .int .u64 x2] 115))
      have HI2 := Lib.hid (show ∀ j u, [Value.int .i64 4, .int .i64 0, .int .i64 x1, .int .u64 x2][j]? = some u → (wr.drew.alloc (.cells #[.int .i64 4, .int .i64 0, .int .i64 x1, .int .u64 x2] 115)).cell? (Addr.add ⟨wr.heap.size, 0, none⟩ j) = some u from four_cells wr.drew _ _ _ _ _)
      have HSZ := Lib.hid (show w.heap.size ≤ (wr.drew.alloc (.cells #[.int .i64 4, .int .i64 0, .int .i64 x1, .int .u64 x2] 115)).heap.size from by have := HN.out.b.size; simp; omega)
      clear hc1 hc2 hbn
      clear hN ho1 ho2 hxe
      go_wp2_with fail
      refine wp_region_noPanic ?_
      refine wp_region_held_drew (S := (fun w' => w'.cell? ⟨pb, po + q * 2, none⟩ = some (.int .i64 x1) ∧ w'.cell? ⟨pb, po + q * 2 + 1, none⟩ = some (.int .u64 x2) ∧ Below w.heap.size w w')) (by kernel_rfl) ?_ (fun hHeld => ?_)
      · exact ⟨f1, f2, HN.out.b.drew⟩
      refine takeD (i := 0) (v := ?_) 14 rfl rfl ?_ ?_ ?_ (fun _ _ _ h => h) ?_ (by assumption) ?_
      rotate_left
      · kernel_rfl
      · kernel_rfl
      · kernel_rfl
      · refine Or.inl (And.intro ?_ ?_)
        · rfl
        · intro w hSw
          try dsimp only at hSw
          first | (go_simp; done) | (go_simp; with_reducible rfl)
      simp only [List.setIfInBounds_toArray, List.set_cons_zero, List.set_cons_succ]
      refine takeD (i := 1) (v := ?_) 15 rfl rfl ?_ ?_ ?_ (fun _ _ _ h => h) ?_ (by assumption) ?_
      rotate_left
      · kernel_rfl
      · kernel_rfl
      · kernel_rfl
      · refine Or.inl (And.intro ?_ ?_)
        · rfl
        · intro w hSw
          try dsimp only at hSw
          first | (go_simp; done) | (go_simp; with_reducible rfl)
      simp only [List.setIfInBounds_toArray, List.set_cons_zero, List.set_cons_succ]
      refine takeD (i := 2) (v := ?_) 16 rfl rfl ?_ ?_ ?_ (fun _ _ _ h => h) ?_ (by assumption) ?_
      rotate_left
      · kernel_rfl
      · kernel_rfl
      · kernel_rfl
      · refine Or.inl (And.intro ?_ ?_)
        · rfl
        · intro w hSw
          try dsimp only at hSw
          first | (go_simp; done) | (go_simp; with_reducible rfl)
      simp only [List.setIfInBounds_toArray, List.set_cons_zero, List.set_cons_succ]
      refine takeD (i := 3) (v := ?_) 17 rfl rfl ?_ ?_ ?_ (fun _ _ _ h => h) ?_ (by assumption) ?_
      rotate_left
      · kernel_rfl
      · kernel_rfl
      · kernel_rfl
      · refine Or.inl (And.intro ?_ ?_)
        · rfl
        · intro w hSw
          try dsimp only at hSw
          first | (go_simp; done) | (go_simp; with_reducible rfl)
      simp only [List.setIfInBounds_toArray, List.set_cons_zero, List.set_cons_succ]
      refine takeD (i := 4) (v := ?_) 18 rfl rfl ?_ ?_ ?_ (fun _ _ _ h => h) ?_ (by assumption) ?_
      rotate_left
      · kernel_rfl
      · kernel_rfl
      · kernel_rfl
      · refine Or.inl (And.intro ?_ ?_)
        · rfl
        · intro w hSw
          try dsimp only at hSw
          first | (go_simp; done) | (go_simp; with_reducible rfl)
      simp only [List.setIfInBounds_toArray, List.set_cons_zero, List.set_cons_succ]
      refine takeD (i := 5) (v := ?_) 19 rfl rfl ?_ ?_ ?_ (fun _ _ _ h => h) ?_ (by assumption) ?_
      rotate_left
      · kernel_rfl
      · kernel_rfl
      · kernel_rfl
      · refine Or.inl (And.intro ?_ ?_)
        · rfl
        · intro w hSw
          try dsimp only at hSw
          first | (go_simp; done) | (go_simp; with_reducible rfl)
      simp only [List.setIfInBounds_toArray, List.set_cons_zero, List.set_cons_succ]
      refine takeD (i := 6) (v := ?_) 20 rfl rfl ?_ ?_ ?_ (fun _ _ _ h => h) ?_ (by assumption) ?_
      rotate_left
      · kernel_rfl
      · kernel_rfl
      · kernel_rfl
      · refine Or.inl (And.intro ?_ ?_)
        · rfl
        · intro w hSw
          try dsimp only at hSw
          first | (go_simp; done) | (go_simp; with_reducible rfl)
      simp only [List.setIfInBounds_toArray, List.set_cons_zero, List.set_cons_succ]
      refine takeD (i := 7) (v := ?_) 21 rfl rfl ?_ ?_ ?_ (fun _ _ _ h => h) ?_ (by assumption) ?_
      rotate_left
      · kernel_rfl
      · kernel_rfl
      · kernel_rfl
      · refine Or.inl (And.intro ?_ ?_)
        · rfl
        · intro w hSw
          try dsimp only at hSw
          first | (go_simp; done) | (go_simp; with_reducible rfl)
      simp only [List.setIfInBounds_toArray, List.set_cons_zero, List.set_cons_succ]
      refine takeD (i := 8) (v := ?_) 22 rfl rfl ?_ ?_ ?_ (fun _ _ _ h => h) ?_ (by assumption) ?_
      rotate_left
      · kernel_rfl
      · kernel_rfl
      · kernel_rfl
      · refine Or.inl (And.intro ?_ ?_)
        · rfl
        · intro w hSw
          try dsimp only at hSw
          first | (go_simp; done) | (go_simp; with_reducible rfl)
      simp only [List.setIfInBounds_toArray, List.set_cons_zero, List.set_cons_succ]
      refine takeD (i := 9) (v := ?_) 23 rfl rfl ?_ ?_ ?_ (fun _ _ _ h => h) ?_ (by assumption) ?_
      rotate_left
      · kernel_rfl
      · kernel_rfl
      · kernel_rfl
      · refine Or.inl (And.intro ?_ ?_)
        · rfl
        · intro w hSw
          try dsimp only at hSw
          first | (go_simp; done) | (go_simp; with_reducible rfl)
      simp only [List.setIfInBounds_toArray, List.set_cons_zero, List.set_cons_succ]
      refine takeD (i := 10) (v := ?_) 24 rfl rfl ?_ ?_ ?_ (fun _ _ _ h => h) ?_ (by assumption) ?_
      rotate_left
      · kernel_rfl
      · kernel_rfl
      · kernel_rfl
      · refine Or.inl (And.intro ?_ ?_)
        · rfl
        · intro w hSw
          try dsimp only at hSw
          first | (go_simp; done) | (go_simp; with_reducible rfl)
      simp only [List.setIfInBounds_toArray, List.set_cons_zero, List.set_cons_succ]
      refine takeD (i := 11) (v := ?_) 25 rfl rfl ?_ ?_ ?_ (fun _ _ _ h => h) ?_ (by assumption) ?_
      rotate_left
      · kernel_rfl
      · kernel_rfl
      · kernel_rfl
      · refine Or.inl (And.intro ?_ ?_)
        · rfl
        · intro w hSw
          try dsimp only at hSw
          first | (go_simp; done) | (go_simp; with_reducible rfl)
      simp only [List.setIfInBounds_toArray, List.set_cons_zero, List.set_cons_succ]
      refine wpAnyH_ready (rs := [12]) (by kernel_rfl) (by simp) ?_
      refine AllReadyH.cons rfl (fun K hK => ?_) AllReadyH.nil
      go_simp
      refine hK.out _ _ ?_ (fun hHeld2 => ?_)
      · exact ⟨(Below.cell (hHeld.2.2.alloc hHeld.2.2.size _) (p := ⟨pb, po + q * 2, none⟩) HBN.out).trans HC1.out, (Below.cell (hHeld.2.2.alloc hHeld.2.2.size _) (p := ⟨pb, po + q * 2 + 1, none⟩) HBN.out).trans HC2.out, (hHeld.2.2.alloc hHeld.2.2.size _)⟩
      have hHeld := hHeld2
      clear hHeld2 hK K
      refine wpAnyH_ready (rs := [13]) (by kernel_rfl) (by simp) ?_
      refine AllReadyH.cons rfl (fun K hK => ?_) AllReadyH.nil
      refine ready_if rfl ?_
      refine wp_append_own _ (.tmp 14) (.tmp 26) 56 rfl w.heap.size 115 i0 (.agg #[.int .i64 0, .int .i64 0, .int .i64 0, .int .u64 0]) 4 32 Tryz.underlying56 hi hz0 hz1 hz2 rfl (by decide) _ _ _ rfl HROW.out ⟨wr.heap.size, 0, none⟩ 1 1 [.int .i64 4, .int .i64 0, .int .i64 x1, .int .u64 x2] rfl rfl HI2.out (by intro u hu; simp at hu; rcases hu with rfl | rfl | rfl | rfl <;> rfl) (by unfold maxLen; omega) (by omega) HSZ.out ?_
      intro v3 w3 hown3 hgrow3 hnil3
      go_simp
      have hB3 : Below w.heap.size w w3 := Below.grown hHeld.2.2 hgrow3 HSZ.out (fun k e => (HROW.out.lt k e).1)
      have HO2n := Lib.hid (own_grown (own_below ((Nw.refl (w := wr)).drew.alloc _).b HO2.out) hgrow3 HROW.out (by decide))
      clear hnil3 hgrow3
      refine hK.out _ _ ?_ (fun hHeld2 => ?_)
      · exact ⟨(Below.cell hB3 (p := ⟨pb, po + q * 2, none⟩) HBN.out).trans HC1.out, (Below.cell hB3 (p := ⟨pb, po + q * 2 + 1, none⟩) HBN.out).trans HC2.out, hB3⟩
      have hHeld := hHeld2
      clear hHeld2 hK K
      refine takeD (i := 14) (v := ?_) 5 rfl rfl ?_ ?_ ?_ (fun _ _ _ h => h) ?_ (by assumption) ?_
      rotate_left
      · kernel_rfl
      · kernel_rfl
      · kernel_rfl
      · refine Or.inl (And.intro ?_ ?_)
        · rfl
        · intro w hSw
          try dsimp only at hSw
          first | (go_simp; done) | (go_simp; with_reducible rfl)
      simp only [List.setIfInBounds_toArray, List.set_cons_zero, List.set_cons_succ]
      refine wpAnyH_done (by kernel_rfl) ?_ _
      refine NoPanic.normal ?_
      have HN3 := Lib.hid (show Nw w w3 from ⟨hB3⟩)
      have HO3 := Lib.hid (show w3.ownsRow w.heap.size 115 4 v3 (q + 1) (stR (storeL 4 (l.take (q + 1)))) from by rw [HS.out, stR_snoc]; exact hown3)
      have f1' := hHeld.1
      have hs3 := hB3.size
      have HO2t := Lib.hid (show ((l.take (q + 1)).map (·.1)).map (Value.int .i64) = ((l.take q).map (·.1)).map (Value.int .i64) ++ [Value.int .i64 x1] from by rw [HT.out]; simp)
      clear f1 f2 hown3 hHeld HC1 HC2 HBN HROW HI2 HSZ
      go_wp2_with (at_builtin; go_loud (refine wpList_append_ints _ rfl (.tmp 28) (.tmp 34) 76 rfl w.heap.size 3 j0 (.int .i64 0) 8 Tryz.underlying76 hj hy0 hy1 hy2 rfl _ _ _ rfl (HO2n.out.alloc _) _ 1 1 .i64 [x1] _ rfl rfl (Ints.one _ _ _ _) (by unfold maxLen; omega) (by omega) (by simp; omega) ?_); intro v4 w4 hown4 hgrow4; have hb4 : Below w.heap.size w w4 := Below.grownRow (HN3.out.b.alloc hs3 _) hgrow4 (by simp; omega) (HO2n.out.alloc _) (Nat.le_refl _); have HO4 := Lib.hid (own_grown (own_below ((Nw.refl (w := w3)).alloc _).b HO3.out) hgrow4 (HO2n.out.alloc _) (by decide)); clear hgrow4)
      go_roundw
      case rel => exact ⟨q + 1, by omega, by go_num, ⟨hb4⟩, HO4.out, by rw [HO2t.out]; exact hown4⟩
      case measure => simp [intOf]; omega
    · obtain rfl : q = n := by omega
      rw [List.take_of_length_le (by rw [HL.out]; exact Nat.le_refl _)] at HO1 HO2
      have HRr := Lib.hid (HR.out.nw hN)
      obtain ⟨ia, ic, he, hil, hII⟩ := Ints.of_owns HO2.out
      simp only [Value.slice.injEq, true_and] at he
      obtain ⟨rfl, rfl⟩ := he
      have HFL := Lib.hid (flushes_any 5 ta q tc wr.heap.size (l.map (·.1)) hil (by omega) (fun z hz => by obtain ⟨x, hx, rfl⟩ := List.mem_map.1 hz; exact HXB.out x hx) wr (Nat.le_refl _) hII)
      rw [settleZ_w] at HFL
      have hF1 : (settleL 5 l).length ≤ 8193 := settleL_len 5 l
      have hF2 : 0 < (settleL 5 l).length := by unfold settleL; simp
      have HAP : Hid (applyL (264 + 208 * (k : Int)) l = (storeL 4 l ++ settleL 5 l) ++ markL 6 (264 + 208 * (k : Int)) 0) := rfl
      have HSLn := Lib.hid (show (storeL 4 l).length = q by rw [storeL_len]; exact HL.out)
      unfold OwnS at HFL
      generalize settleL 5 l = F at *
      clear hN ho1 ho2 hil hII
      go_wp2_with fail
      (with_reducible refine HFL.out.mono ?_)
      rintro e w4 ⟨fv, rfl, hfo, hn4⟩
      obtain ⟨fb, fc, rfl, hfc, hfb, hfl, hfcell⟩ := own_st hfo hF2
      have HN4 := Lib.hid (HN.out.trans hn4)
      have HO4 := Lib.hid (own_below hn4.b HO1.out)
      have HR4 := Lib.hid (HRr.out.nw hn4)
      have hs4 := HN4.out.b.size
      have hlF := stR_len F
      generalize hFn : F.length = nF at *
      have HFN := Lib.hid hFn
      clear hfo hfb hfl hn4 hFn
      go_wp2_with (at_builtin; go_loud (refine wpList_append_own _ rfl (.tmp 36) (.tmp 38) 56 rfl w.heap.size 115 i0 (.agg #[.int .i64 0, .int .i64 0, .int .i64 0, .int .u64 0]) 4 32 Tryz.underlying56 hi hz0 hz1 hz2 rfl (by decide) _ _ _ rfl HO4.out ⟨fb, 0, none⟩ nF fc (stR F) rfl hlF hfcell (stR_one F) (by unfold maxLen; omega) (by omega) hs4 ?_); intro v5 w5 hown5 hgrow5 _; have hb5 : Below w.heap.size w w5 := Below.grownRow HN4.out.b hgrow5 hs4 HO4.out (Nat.le_refl _); have hb45 : Nw w w5 := ⟨hb5⟩; have HO5 := Lib.hid hown5; have HR5 := Lib.hid (HR.out.nw hb45); have HCL := Lib.hid (clears_any r d g k L a hm hk w5 HR5.out); clear hgrow5 hown5)
      unfold OwnS at HCL
      have hM2 : 0 < (markL 6 (264 + 208 * (k : Int)) 0).length := by unfold markL bothL; simp [storeL]
      have hM1 : (markL 6 (264 + 208 * (k : Int)) 0).length ≤ 8194 := markL_len 6 _ 0
      generalize markL 6 (264 + 208 * (k : Int)) 0 = M at *
      (with_reducible refine HCL.out.mono ?_)
      rintro e w6 ⟨mv, rfl, hmo, hn6⟩
      obtain ⟨mb, mc, rfl, hmc, hmb, hml, hmcell⟩ := own_st hmo hM2
      have HN6 := Lib.hid (hb45.trans hn6)
      have HO6 := Lib.hid (own_below hn6.b HO5.out)
      have hs6 := HN6.out.b.size
      have hlM := stR_len M
      generalize hMn : M.length = nM at *
      have HMN := Lib.hid hMn
      obtain ⟨xa, xc, rfl⟩ := own_slice HO6.out
      clear hmo hmb hml hn6 hMn
      go_wp2_with (at_builtin; go_loud (refine wpList_append_own _ rfl (.tmp 39) (.tmp 41) 56 rfl w.heap.size 115 i0 (.agg #[.int .i64 0, .int .i64 0, .int .i64 0, .int .u64 0]) 4 32 Tryz.underlying56 hi hz0 hz1 hz2 rfl (by decide) _ _ _ rfl HO6.out ⟨mb, 0, none⟩ nM mc (stR M) rfl hlM hmcell (stR_one M) (by unfold maxLen; omega) (by omega) hs6 ?_); intro v7 w7 hown7 hgrow7 _; have hb7 : Below w.heap.size w w7 := Below.grownRow HN6.out.b hgrow7 hs6 HO6.out (Nat.le_refl _); clear hgrow7)
      go_ret
      refine ⟨v7, rfl, ?_, ⟨hb7⟩⟩
      rw [HAP.out, List.length_append, List.length_append, stR_append, stR_append, HSLn.out, HFN.out, HMN.out]
      exact hown7
end Go.Proofs.YtkopfnldgnkkoaaGreat
