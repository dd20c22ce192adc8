/-
  RUNS: Begin.
-/
import Derived.Test.YtkopfnldgnkkoaaCmE
namespace Go.Proofs.Ytkopfnldgnkkoaa
open Go.RowKit Go.Shelf
set_option linter.unusedVariables false

/-- The writes of a record into an area. -/
def ownW (area : Int) (ws : List Int) : List Wr := (List.range ws.length).map fun (i : Nat) => (area + 8 + (i : Int), ws[i]?.getD 0)
theorem ownW_len (area : Int) (ws : List Int) : (ownW area ws).length = ws.length := by simp [ownW]
theorem ownW_take {area : Int} {ws : List Int} {k : Nat} (h : k < ws.length) : (ownW area ws).take (k + 1) = (ownW area ws).take k ++ [(area + 8 + (k : Int), ws[k])] := by
  rw [List.take_succ_eq_append_getElem (by rw [ownW_len]; exact h)]
  simp [ownW, h]
def beginL (area : Int) (l : List Wr) : List St := bothL 1 2 (ownW area (recL l)) ++ markL 3 area (markV (recL l)) ++ applyL area l
theorem pairs_upo {O : Nat → Prop} {k1 k2 : IntKind} {n₀ : Nat} {W W' : World} {a : Option Addr} {l : List Wr} (h : Pairs k1 k2 n₀ W a l) (k : UpO O W W') (hO : ∀ p, a = some p → ¬ O p.block) : Pairs k1 k2 n₀ W' a l := by
  rcases h with h | ⟨b, off, rfl, hb, hc⟩
  · exact .inl h
  · have hn := hO _ rfl
    exact .inr ⟨b, off, rfl, hb, fun j hj => ⟨k.cell (hc j hj).1 hn, k.cell (hc j hj).2 hn⟩⟩
theorem prC_own (l : List Wr) (x : Wr) : prC l ++ [.int .i64 x.1, .int .u64 x.2] = prC (l ++ [x]) := (prC_snoc l x).symm

set_option maxRecDepth 100000 in
set_option maxHeartbeats 2000000 in
theorem begin_nil (la : Option Addr) (n lc : Nat) (w : World) :
    Calls Try.prog 13 #[.pointer none, .slice la n lc] w fun e w' => e = .returned (.int .i64 2) ∧ w = w' := by
  go_enter Try.func13, Try.ntmps13
  go_wp2_with fail
  go_ret
  exact ⟨rfl, rfl⟩
set_option maxRecDepth 100000 in
set_option maxHeartbeats 2000000 in
theorem begin_busy (r d : Nat) (g : G) (area : Int) (L : List St) (a : Option Addr) (h0 : 0 < L.length) (la : Option Addr) (n lc : Nat) (w : World) (h : RunAt w r d g area L a) :
    Calls Try.prog 13 #[.pointer (some ⟨r, 0, none⟩), .slice la n lc] w fun e w' => e = .returned (.int .i64 3) ∧ w = w' := by
  obtain ⟨c, hk, _⟩ := h.k
  have hc5 : w.cell? ⟨r, 5, none⟩ = some (.slice a L.length c) := hk.cell rfl
  clear h hk
  go_enter Try.func13, Try.ntmps13
  go_wp2_with fail
  go_ret
  exact ⟨rfl, rfl⟩
set_option maxRecDepth 100000 in
set_option maxHeartbeats 2000000 in
theorem begin_no (r d : Nat) (g : G) (area : Int) (a : Option Addr) (la : Option Addr) (n lc n₀ : Nat) (l : List Wr) (hl : l.length = n) (hn : n ≤ 1000000) (hu : ∀ x ∈ l, (Lit.int .i64 x.1).wf = true) (hm : mayW g l = false) (w : World) (hn₀ : n₀ ≤ w.heap.size) (hI : Pairs .i64 .u64 n₀ w la l) (h : RunAt w r d g area [] a) :
    Calls Try.prog 13 #[.pointer (some ⟨r, 0, none⟩), .slice la n lc] w fun e w' => e = .returned (.int .i64 1) ∧ Nw w w' := by
  obtain ⟨c, hk, _⟩ := h.k
  have hc1 : w.cell? ⟨r, 1, none⟩ = some (.int .i64 g.w) := hk.cell rfl
  have hc2 : w.cell? ⟨r, 2, none⟩ = some (.int .i64 g.i) := hk.cell rfl
  have hc3 : w.cell? ⟨r, 3, none⟩ = some (.int .i64 g.b) := hk.cell rfl
  have hc5 : w.cell? ⟨r, 5, none⟩ = some (.slice a 0 c) := hk.cell rfl
  have HM := Lib.hid (rcmay_any g la lc n₀ l hu w hn₀ hI (by omega))
  rw [hl, hm] at HM
  unfold gV at HM
  clear h hk hI hu hm
  go_enter Try.func13, Try.ntmps13
  go_wp2_with fail
  refine HM.out.mono ?_
  rintro e w1 ⟨rfl, hn1⟩
  have HN1 := Lib.hid hn1
  clear hn1
  go_wp2_with fail
  go_ret
  exact ⟨rfl, HN1.out⟩

set_option maxRecDepth 100000 in
set_option maxHeartbeats 8000000 in
theorem begin_yes (r d : Nat) (g : G) (area : Int) (a : Option Addr) (h0 : 0 ≤ area) (h1 : area + 208 ≤ 65536) (la : Option Addr) (n lc n₀ : Nat) (l : List Wr) (hl : l.length = n) (hsh : Shp la n lc) (hu : ∀ x ∈ l, (Lit.int .i64 x.1).wf = true ∧ u64 x.2) (hm : mayW g l = true) (w : World) (hn₀ : n₀ ≤ w.heap.size) (hI : Pairs .i64 .u64 n₀ w la l) (h : RunAt w r d g area [] a)
    (hla : ∀ p, la = some p → ¬ OwnR9 r a p.block) :
    Calls Try.prog 13 #[.pointer (some ⟨r, 0, none⟩), .slice la n lc] w (RunG w r d g area a (beginL area l) (.int .i64 0)) := by
  obtain ⟨i0, hi, hz0, hz1, hz2⟩ := info_parts8 info_wr
  have hsm := may_small hm
  have hng := may_neg hm
  have hn96 : n ≤ 96 := by rw [← hl]; exact hsm.1
  have hxb : ∀ x ∈ l, 0 ≤ x.1 ∧ x.1 < 65536 := fun x hx => by
    obtain ⟨i, hi, e⟩ := atW_mem hx
    have := hsm.2 i hi
    rw [e] at this; exact this
  have hok : okW l := fun x hx => ⟨by have := hxb x hx; omega, (hu x hx).2⟩
  have hwl : wordsL l = recL l := if_neg (by rintro (h | h); omega; rw [hng] at h; cases h)
  have hwe : wordsE l = 0 := (if_neg (by omega)).trans (if_neg (by rw [hng]; decide))
  have hru := rec_u64 (by omega) hok hng
  have hrl : (recL l).length = 2 + 2 * n := by rw [recL_len, hl]
  obtain ⟨c, hk, _⟩ := h.k
  have HXB := Lib.hid hxb
  have HM := Lib.hid (rcmay_any g la lc n₀ l (fun x hx => (hu x hx).1) w hn₀ hI (by omega))
  have HW := Lib.hid (fun (w1 : World) (hn1 : Nw w w1) => words_any la lc n₀ l hok w1 (Nat.le_trans hn₀ hn1.b.size) (hI.below (hn1.b.mono hn₀)) (by omega))
  rw [hl, hm] at HM
  rw [hl] at HW
  have HRU := Lib.hid hru
  have HR := Lib.hid h
  have HLA := Lib.hid hla
  have HSH := Lib.hid hsh
  have HL := Lib.hid hl
  have HI := Lib.hid hI
  have HWL := Lib.hid hwl
  have HWE := Lib.hid hwe
  have HBL : Hid (beginL area l = bothL 1 2 (ownW area (recL l)) ++ markL 3 area (markV (recL l)) ++ applyL area l) := rfl
  obtain ⟨ws, hws⟩ : ∃ ws, recL l = ws := ⟨_, rfl⟩
  rw [hws] at HRU hrl HWL HBL
  obtain ⟨m, hm2⟩ : ∃ m, 2 + 2 * n = m := ⟨_, rfl⟩
  rw [hm2] at hrl
  have hm3 : m ≤ 194 := by omega
  have HRL := Lib.hid hrl
  clear hws hl hm2
  have hc1 : w.cell? ⟨r, 1, none⟩ = some (.int .i64 g.w) := hk.cell rfl
  have hc2 : w.cell? ⟨r, 2, none⟩ = some (.int .i64 g.i) := hk.cell rfl
  have hc3 : w.cell? ⟨r, 3, none⟩ = some (.int .i64 g.b) := hk.cell rfl
  have hc5 : w.cell? ⟨r, 5, none⟩ = some (.slice a 0 c) := hk.cell rfl
  unfold gV at HM
  clear h hk hI hu hm hru hrl hwl hwe hla hsh hok hxb hsm hng
  go_enter Try.func13, Try.ntmps13
  go_wp2_with fail
  refine HM.out.mono ?_
  rintro e w1 ⟨rfl, hn1⟩
  have HN1 := Lib.hid hn1
  clear hn1 hc1 hc2 hc3 hc5
  go_wp2_with fail
  refine (HW.out w1 HN1.out).mono ?_
  rintro e w2 ⟨a2, c2, rfl, hc2, hI2, hn2, hf2⟩
  rw [HWE.out]
  rw [HWL.out] at hc2 hI2 ⊢
  rw [HRL.out] at hc2 ⊢
  have HN2 := Lib.hid (HN1.out.trans hn2)
  have HI2 := Lib.hid hI2
  have HF2 := Lib.hid (fun p hp => Nat.le_trans HN1.out.b.size (hf2 p hp))
  clear hI2 hn2 hf2 HW HN1
  go_wp2_with fail
  go_loopw [38, 7] (fun i v wr => ∃ k : Nat, k ≤ m ∧ i = .int .i64 k ∧ Nw w2 wr ∧ wr.ownsRow w2.heap.size 41 2 v k (prC ((ownW area ws).take k))) (fun i _ _ => m - (intOf i).toNat)
  case atStart => exact ⟨0, Nat.zero_le _, rfl, Nw.refl, rfl, .inl ⟨rfl, rfl⟩⟩
  case round =>
    obtain ⟨k, hk, rfl, hn, how⟩ := hrel
    by_cases hlt : k < m
    · obtain ⟨qb, qo, rfl, _, hc⟩ := (Ints.nw (n := 0) hn HI2.out).at (j := k) (by rw [HRL.out]; exact hlt)
      have HST := Lib.hid (ownW_take (area := area) (ws := ws) (k := k) (by rw [HRL.out]; exact hlt))
      obtain ⟨z, hz⟩ : ∃ z, ws[k]'(by rw [HRL.out]; exact hlt) = z := ⟨_, rfl⟩
      rw [hz] at hc HST
      obtain ⟨cc, hkk, _⟩ := ((HR.out.nw HN2.out).nw hn).k
      have hc4 : wr.cell? ⟨r, 4, none⟩ = some (.int .i64 area) := hkk.cell rfl
      have HN := Lib.hid hn
      have HOW := Lib.hid how
      have hs := hn.b.size
      clear hz hn how hkk
      go_wp2_with (first | (at_builtin; go_loud (refine wpList_append_own _ rfl (.tmp 43) (.tmp 53) 36 rfl w2.heap.size 41 i0 (.agg #[.int .i64 0, .int .u64 0]) 2 16 Try.underlying36 hi hz0 hz1 hz2 rfl (by decide) _ k _ rfl (HOW.out.alloc _) ⟨wr.heap.size, 0, none⟩ 1 1 [.int .i64 (area + 8 + (k : Int)), .int .u64 z] rfl rfl (two_cells _ _ _ _) (by intro u hu; simp at hu; rcases hu with rfl | rfl <;> rfl) (by unfold maxLen; omega) (by omega) (by simp; omega) ?_); intro v3 w3 hown3 hgrow3 _; have hb3 : Below w2.heap.size w2 w3 := Below.grownRow (HN.out.b.alloc hs _) hgrow3 (by simp; omega) (HOW.out.alloc _) (Nat.le_refl _); clear hgrow3; rw [prC_own _ (area + 8 + (k : Int), z), ← HST.out] at hown3; have HO3 := Lib.hid hown3; clear hown3) | fail)
      go_roundw
      case rel => exact ⟨k + 1, by omega, by go_num, ⟨hb3⟩, HO3.out⟩
      case measure => simp [intOf]; omega
    · obtain rfl : k = m := by omega
      rw [List.take_of_length_le (by rw [ownW_len, HRL.out]; exact Nat.le_refl _)] at how
      have HN := Lib.hid hn
      obtain ⟨a3, c3, rfl⟩ := own_slice how
      have HOW := Lib.hid how
      clear hn how
      have HRr := Lib.hid ((HR.out.nw HN2.out).nw HN.out)
      have HM0 := Lib.hid ((RunM.refl HR.out).nw (HN2.out.trans HN.out))
      have HOL : Hid ((ownW area ws).length = k) := by show _ = _; rw [ownW_len, HRL.out]
      have hpo : ∀ W', UpO (OwnR9 r a) wr W' → Pairs .i64 .u64 W'.heap.size W' a3 (ownW area ws) := by
        intro W' k'
        have h9 := own_upo HOW.out k' (fun g hg => HRr.out.not_own hg (by decide) (by decide))
        have e := HOL.out
        generalize ownW area ws = ow at h9 e ⊢
        subst e
        obtain ⟨a', c', he, _, hp⟩ := Pairs.of_owns h9
        simp only [Value.slice.injEq, true_and] at he
        obtain ⟨rfl, -⟩ := he
        exact hp
      have hox : ∀ x ∈ ownW area ws, 0 ≤ x.1 ∧ x.1 < 65536 := by
        intro x hx
        simp only [ownW, List.mem_map, List.mem_range] at hx
        obtain ⟨i, hi, rfl⟩ := hx
        rw [HRL.out] at hi
        dsimp only
        omega
      have HB1 := Lib.hid (both_any r d g area [] a 1 2 a3 k c3 (ownW area ws) HOL.out (by simp; omega) hox wr HRr.out hpo)
      have HIr := Lib.hid (Ints.nw (n := 0) HN.out HI2.out)
      have HNA : Hid (∀ p, a2 = some p → ¬ OwnR9 r a p.block) := fun p hp hx => by
        have h1 := HF2.out p hp
        have h2 := HR.out.own_lt hx
        omega
      clear hpo hox
      go_wp2_with fail
      refine HB1.out.mono ?_
      rintro e w4 ⟨⟨u, rfl⟩, a4, hm4⟩
      have HM4 := Lib.hid (show RunM wr r d g area a (bothL 1 2 (ownW area ws)) a4 w4 from by simpa using hm4)
      clear hm4
      have HI4 := Lib.hid (HM4.out.u.ints HIr.out (fun _ => HNA.out))
      have HMK := Lib.hid (mark_any a2 c2 wr.heap.size ws (by rw [HRL.out]; exact hc2) HRU.out (by rw [HRL.out]; omega) w4 HI4.out)
      rw [HRL.out] at HMK
      have hlen1 : (bothL 1 2 (ownW area ws)).length ≤ 90000 := by have := bothL_len 1 2 (ownW area ws); rw [HOL.out] at this; omega
      go_wp2_with fail
      refine HMK.out.mono ?_
      rintro e w5 ⟨rfl, q, hq⟩
      have HN5 := Lib.hid (show Nw w4 w5 from by rw [hq]; exact Nw.refl.drewN q)
      clear hq
      have HMA := Lib.hid (mark_any' r d g area (bothL 1 2 (ownW area ws)) a4 3 (markV ws) hlen1 h0 (by omega) w5 (HM4.out.rr.nw HN5.out))
      clear hlen1
      go_wp2_with fail
      refine HMA.out.mono ?_
      rintro e w6 ⟨⟨u, rfl⟩, a6, hm6⟩
      have HM6 := Lib.hid ((HM0.out.then HM4.out).then (.pre HN5.out hm6))
      clear hm6
      have hlen2 : (bothL 1 2 (ownW area ws) ++ markL 3 area (markV ws)).length + n + n ≤ 50000 := by
        have e1 := bothL_len 1 2 (ownW area ws)
        have e2 := markL_len 3 area (markV ws)
        rw [HOL.out] at e1
        rw [List.length_append]
        omega
      have HCL := Lib.hid (cloneW_any la n lc n₀ l HL.out HSH.out (by omega) w6 (Nat.le_trans hn₀ HM6.out.u.size) (pairs_upo HI.out HM6.out.u HLA.out))
      go_wp2_with fail
      refine HCL.out.mono ?_
      rintro e w7 ⟨a7, c7, rfl, hc7, hp7, hn7, hf7⟩
      rw [HL.out]
      have HN7 := Lib.hid hn7
      have HP7 := Lib.hid hp7
      have HF7 := Lib.hid hf7
      have HAP := Lib.hid (apply_any r d g area (bothL 1 2 (ownW area ws) ++ markL 3 area (markV ws)) a6 a7 n c7 l HL.out hlen2 HXB.out h0 (by omega) w7 (HM6.out.rr.nw hn7) (fun W' k' => by
        have h9 := pairs_upo HP7.out k' (fun p hp hx => by have h1 := HF7.out p hp; have h2 := HM6.out.rr.own_lt hx; omega)
        exact h9.mono k'.size))
      clear hc7 hp7 hn7 hf7 hlen2
      go_wp2_with fail
      refine HAP.out.mono ?_
      rintro e w8 ⟨⟨u, rfl⟩, a8, hm8⟩
      have HM8 := Lib.hid ((HM6.out.nw HN7.out).then hm8)
      clear hm8
      go_wp2_with fail
      go_ret
      exact ⟨rfl, a8, by rw [HBL.out]; exact HM8.out⟩

end Go.Proofs.Ytkopfnldgnkkoaa
