/-
  THE WALK OF RecordMarks.
-/
import Derived.Test.YtnmgeembmmbhjaaRcI
import Derived.Test.YtnmgeembmmbhjaaRcL
namespace Go.Proofs.Ytnmgeembmmbhjaa
open Go.RowKit Go.Shelf
set_option linter.unusedVariables false

theorem u64_of_wfI {n : Int} (h : (Lit.int .u64 n).wf = true) : u64 n := by
  simp [Lit.wf, IntKind.min, IntKind.max, IntKind.bits, IntKind.signed] at h
  exact ⟨by omega, by omega⟩
theorem u16_of_wf {n : Int} (h : (Lit.int .u16 n).wf = true) : 0 ≤ n ∧ n ≤ 65535 := by
  simp [Lit.wf, IntKind.min, IntKind.max, IntKind.bits, IntKind.signed] at h
  omega
theorem okW_of_wf {l : List Wr} (h : ∀ x ∈ l, (Lit.int .i64 x.1).wf = true ∧ (Lit.int .u64 x.2).wf = true) : okW l := by
  intro x hx
  obtain ⟨h1, h2⟩ := h x hx
  refine ⟨?_, u64_of_wfI h2⟩
  simp [Lit.wf, IntKind.min, IntKind.max, IntKind.bits, IntKind.signed] at h1
  omega
theorem idx_marks (at_ len0 : Nat) (h : 0 < len0) (hl : len0 ≤ 96) : ∃ K : Nat, wrap64 (1 + (at_ : Int) % (2 + 2 * (len0 : Int) - 2)) = (K : Int) ∧ 0 < K ∧ K < 1 + 2 * len0 := by
  have hmod : at_ % (2 * len0) < 2 * len0 := Nat.mod_lt _ (by omega)
  refine ⟨1 + at_ % (2 * len0), ?_, by omega, by omega⟩
  rw [show (2 : Int) + 2 * (len0 : Int) - 2 = ((2 * len0 : Nat) : Int) by omega, ← Int.natCast_emod]
  generalize at_ % (2 * len0) = q at *
  unfold wrap64
  omega
theorem words_many {l : List Wr} (h : 96 < l.length) : wordsL l = [] ∧ wordsE l = 5 := ⟨if_pos (.inl h), if_pos h⟩
theorem words_neg {l : List Wr} (h : l.length ≤ 96) (hg : neg l = true) : wordsL l = [] ∧ wordsE l = 1 := ⟨if_pos (.inr hg), (if_neg (by omega)).trans (if_pos hg)⟩
theorem words_ok {l : List Wr} (h : l.length ≤ 96) (hg : neg l = false) : wordsL l = recL l ∧ wordsE l = 0 := ⟨if_neg (by rintro (h | h); omega; rw [hg] at h; cases h), (if_neg (by omega)).trans (if_neg (by rw [hg]; decide))⟩

set_option maxRecDepth 100000 in
set_option maxHeartbeats 8000000 in
theorem walk_marks (a0 : Option Addr) (len0 cap0 : Nat) (l : List Wr) (hl : l.length = len0) (hlm : len0 ≤ 9223372036854775807) (hok : okW l)
    (a1 : Option Addr) (len1 cap1 : Nat) (zs : List Int) (hzl : zs.length = len1) (hr1 : len1 * 8 ≤ 140737488351232) (hzu : ∀ x ∈ zs, u64 x) (at_ : Nat) (hat : at_ < 65536) (by_ : Int) (hby : u64 by_)
    (w : World) (hI : Pairs .i64 .u64 w.heap.size w a0 l) (hIz : Ints w.heap.size .u64 w a1 zs) :
    Calls Try.prog 7 #[.slice a0 len0 cap0, .slice a1 len1 cap1, .int .u16 (at_ : Int), .int .u64 by_] w fun e w' => e = .returned (.bool true) ∧ Below w.heap.size w w' := by
  obtain ⟨i0, hi, hz0, hz1, hz2⟩ := info_parts8 info_u64
  by_cases hbig : 96 < len0 ∨ 100 < len1
  · have hd : (decide (96 < (len0 : Int)) || decide (100 < (len1 : Int))) = true := by simp; omega
    clear hok hI hl hIz hzl hzu
    rcases hbig with hbig | hbig
    · have hd1 : decide (96 < (len0 : Int)) = true := by simp; omega
      go_enter Try.func7, Try.ntmps7
      go_wp2_with fail
      refine (works_ok _).mono ?_
      rintro e w1 ⟨rfl, hN⟩
      go_wp2_with fail
      go_ret
      exact ⟨rfl, hN.b⟩
    · by_cases hd1 : 96 < len0
      · go_enter Try.func7, Try.ntmps7
        go_wp2_with fail
        refine (works_ok _).mono ?_
        rintro e w1 ⟨rfl, hN⟩
        go_wp2_with fail
        go_ret
        exact ⟨rfl, hN.b⟩
      · go_enter Try.func7, Try.ntmps7
        go_wp2_with fail
        refine (works_ok _).mono ?_
        rintro e w1 ⟨rfl, hN⟩
        go_wp2_with fail
        go_ret
        exact ⟨rfl, hN.b⟩
  have h96 : len0 ≤ 96 := by omega
  have h100 : len1 ≤ 100 := by omega
  have HW := Lib.hid (words_any a0 cap0 w.heap.size l hok w (Nat.le_refl _) hI (by omega))
  rw [hl] at HW
  have HL := Lib.hid hl
  have HZL := Lib.hid hzl
  have HIZ := Lib.hid hIz
  have HU := Lib.hid hok
  have HZU := Lib.hid hzu
  clear hl hzl hIz hok hzu hI hbig
  cases hg : neg l with
  | true =>
    obtain ⟨e1, e2⟩ := words_neg (l := l) (by rw [HL.out]; exact h96) hg
    clear hg
    go_enter Try.func7, Try.ntmps7
    go_wp2_with fail
    refine HW.out.mono ?_
    intro e w1 h1
    obtain ⟨a2, c2, rfl, hc2, _, hN1⟩ := h1.own (n := 0) (by rw [e1]; rfl)
    rw [e2]
    clear h1 e1 e2
    go_wp2_with fail
    refine (works_ok _).mono ?_
    rintro e w2 ⟨rfl, hN2⟩
    go_wp2_with fail
    go_ret
    exact ⟨rfl, (hN1.trans hN2).b⟩
  | false =>
  obtain ⟨e1, e2⟩ := words_ok (l := l) (by rw [HL.out]; exact h96) hg
  obtain ⟨ws, hws⟩ : ∃ ws, recL l = ws := ⟨_, rfl⟩
  have HWS := Lib.hid hws
  have HWL := Lib.hid (show ws.length = 2 + 2 * len0 from by rw [← hws, recL_len, HL.out])
  rw [hws] at e1
  have HG := Lib.hid hg
  have hHas := Has.of_rec (l := l) (by rw [HL.out]; exact h96) []
  rw [List.append_nil, hws, ] at hHas
  have HH := Lib.hid hHas
  clear hHas hws hg
  go_enter Try.func7, Try.ntmps7
  go_wp2_with fail
  refine HW.out.mono ?_
  intro e w1 h1
  obtain ⟨a2, c2, rfl, hc2, hI2, hN1⟩ := h1.own (n := 2 + 2 * len0) (by rw [e1, HWL.out])
  rw [e2]
  rw [e1] at hI2
  clear h1 e1 e2
  have HI2 := Lib.hid hI2
  obtain ⟨b2, o2, rfl, hb2, c1⟩ := hI2.at (j := 1 + 2 * len0) (by rw [HWL.out]; omega)
  rw [show ws[1 + 2 * len0]'(by rw [HWL.out]; omega) = sumOf (bodyL l) from by have := HH.out.last; rw [HL.out, List.getElem?_eq_getElem (by rw [HWL.out]; omega)] at this; exact this] at c1
  obtain ⟨s, hs⟩ : ∃ s, sumOf (bodyL l) = s := ⟨_, rfl⟩
  rw [hs] at c1
  have HS := Lib.hid hs
  have hIz1 := Ints.nw (n := 0) hN1 HIZ.out
  have hsu : u64 s := by rw [← hs]; exact sumOf_range _
  obtain ⟨M, hM⟩ : ∃ M, s * 65536 % 18446744073709551616 + (len0 : Int) * 256 + 1 = M := ⟨_, rfl⟩
  have hwant := want_eq (s := s) (n := (len0 : Int)) (by omega) (by omega)
  rw [hM] at hwant
  have HM1 := Lib.hid (show markV ws = M from by have := HH.out.mark (by rw [hs]; exact hsu); rw [this, hs, HL.out, hM])
  have HM2 := Lib.hid (show markV (ws ++ zs) = M from by
    have h1 := Has.of_rec (l := l) (by rw [HL.out]; exact h96) zs
    rw [HWS.out] at h1
    have := h1.mark (by rw [hs]; exact hsu); rw [this, hs, HL.out, hM])
  have HWU := Lib.hid (show ∀ x ∈ ws, u64 x from by rw [← HWS.out]; exact rec_u64 (by rw [HL.out]; exact h96) HU.out HG.out)
  have HZZ := Lib.hid (show ∀ x ∈ ws ++ zs, u64 x from fun x hx => (List.mem_append.1 hx).elim (HWU.out x) (HZU.out x))
  have HEN := Lib.hid (show endN (ws ++ zs) = 1 + 2 * len0 from by
    have h1 := Has.of_rec (l := l) (by rw [HL.out]; exact h96) zs
    rw [HWS.out] at h1
    rw [h1.endN, HL.out])
  have HZN := Lib.hid (show (ws ++ zs).length = 2 + 2 * len0 + len1 from by rw [List.length_append, HWL.out, HZL.out])
  clear hs hI2 hM hsu
  by_cases hl0 : 0 < len0
  · obtain ⟨K, hk, hK1, hK2⟩ := idx_marks at_ len0 hl0 h96
    have hK3 : K < 2 + 2 * len0 + len1 := Nat.lt_of_lt_of_le hK2 (by clear hwant; omega)
    go_wp2_with (first
      | (at_builtin; refine wpList_append_ints _ rfl (.tmp 57) (.tmp 58) 25 rfl w1.heap.size 27 i0 (.int .u64 0) 8 Try.underlying25 hi hz0 hz1 hz2 rfl _ 0 [] rfl (World.ownsRow_made _ #[] 0 (Nat.le_refl _) (Nat.zero_le _) (by simp)) _ (2 + 2 * len0) c2 .u64 ws _ rfl HWL.out (Ints.below (Nw.refl.alloc _).b HI2.out) (by unfold maxLen; omega) (by omega) (by simp) ?_; intro v2 w2 hown2 hgrow2; have hb2 : Below w1.heap.size w1 w2 := ((Below.refl _ w1).alloc (Nat.le_refl _) _).grown hgrow2 (by simp) (fun k e => by cases e; exact Nat.le_refl _); clear hgrow2; simp only [Nat.zero_add, List.nil_append] at hown2; have hs2 := hb2.size)
      | (at_builtin; refine wpList_append_ints _ rfl (.tmp 59) (.tmp 60) 25 rfl w1.heap.size 27 i0 (.int .u64 0) 8 Try.underlying25 hi hz0 hz1 hz2 rfl _ _ _ rfl hown2 _ len1 cap1 .u64 zs w1.heap.size rfl HZL.out (Ints.below hb2 hIz1) (by unfold maxLen; omega) (by omega) hs2 ?_; intro v3 w3 hown3 hgrow3; have hb3 : Below w1.heap.size w1 w3 := Below.grownRow hb2 hgrow3 hs2 hown2 (Nat.le_refl _); clear hgrow3; rw [← List.map_append] at hown3; obtain ⟨g, c3, rfl, hg⟩ := own_pos hown3 (by omega); have hs3 := hb3.size; obtain ⟨x, hx⟩ : ∃ x, (ws ++ zs)[K]?.getD 0 = x := ⟨_, rfl⟩; have cK := own_cell hown3 (j := K) hK3; rw [hx] at cK; have fK := hown3.frozenAt K)
      | fail)
    have hown4 := own_set hown3 K (IntKind.u64.wrap (x + by_))
    have hb4 := hb3.setCell (p := ⟨g, K, none⟩) hg.1 (.int .u64 (IntKind.u64.wrap (x + by_)))
    have hus := u64_set (k := K) HZZ.out (wrap_isU (x + by_))
    have hmu : markV ((ws ++ zs).set K (IntKind.u64.wrap (x + by_))) = M := by rw [mark_set hK1 (by rw [HEN.out]; omega), HM2.out]
    clear cK fK hx hown3 hown2 hb2 hs2
    generalize (ws ++ zs).set K (IntKind.u64.wrap (x + by_)) = us at *
    generalize w3.setCell ⟨g, K, none⟩ (.int .u64 (IntKind.u64.wrap (x + by_))) = W4 at *
    clear hb3 hs3 hg
    obtain ⟨ag, cg, he, hlg, hIg⟩ := Ints.of_owns hown4
    simp only [Value.slice.injEq, true_and] at he
    obtain ⟨rfl, rfl⟩ := he
    have hcg := own_cap hown4
    have HIw := Lib.hid (Ints.below hb4 HI2.out)
    have HMa := Lib.hid (mark_any (some ⟨b2, o2, none⟩) c2 w1.heap.size ws (by rw [HWL.out]; exact hc2) HWU.out (by rw [HWL.out]; omega) W4 HIw.out)
    have HMb := Lib.hid (fun m => mark_any (some ⟨g, 0, none⟩) c3 W4.heap.size us (by rw [hlg]; exact hcg) hus (by rw [hlg]; omega) (W4.drewN m) hIg)
    rw [HWL.out, HM1.out] at HMa
    rw [hlg, hmu] at HMb
    have HB4 := Lib.hid ((hN1.b.trans (hb4.mono hN1.b.size)) : Below w.heap.size w W4)
    clear hown4 hIg hb4 hN1 hlg hcg hus hmu hIz1 c1
    refine HMa.out.mono ?_
    rintro e w5 ⟨rfl, m, rfl⟩
    go_wp2_with fail
    refine (HMb.out m).mono ?_
    rintro e w6 ⟨rfl, m2, rfl⟩
    go_wp2_with fail
    refine (works_ok _).mono ?_
    rintro e w7 ⟨rfl, hN7⟩
    go_wp2_with fail
    go_ret
    exact ⟨rfl, (below_drewN HB4.out _).trans (hN7.b.mono HB4.out.size)⟩
  · have hl00 : ¬ 2 < 2 + 2 * (len0 : Int) := by omega
    clear hl0
    go_wp2_with (first
      | (at_builtin; refine wpList_append_ints _ rfl (.tmp 57) (.tmp 58) 25 rfl w1.heap.size 27 i0 (.int .u64 0) 8 Try.underlying25 hi hz0 hz1 hz2 rfl _ 0 [] rfl (World.ownsRow_made _ #[] 0 (Nat.le_refl _) (Nat.zero_le _) (by simp)) _ (2 + 2 * len0) c2 .u64 ws _ rfl HWL.out (Ints.below (Nw.refl.alloc _).b HI2.out) (by unfold maxLen; omega) (by omega) (by simp) ?_; intro v2 w2 hown2 hgrow2; have hb2 : Below w1.heap.size w1 w2 := ((Below.refl _ w1).alloc (Nat.le_refl _) _).grown hgrow2 (by simp) (fun k e => by cases e; exact Nat.le_refl _); clear hgrow2; simp only [Nat.zero_add, List.nil_append] at hown2; have hs2 := hb2.size)
      | (at_builtin; refine wpList_append_ints _ rfl (.tmp 59) (.tmp 60) 25 rfl w1.heap.size 27 i0 (.int .u64 0) 8 Try.underlying25 hi hz0 hz1 hz2 rfl _ _ _ rfl hown2 _ len1 cap1 .u64 zs w1.heap.size rfl HZL.out (Ints.below hb2 hIz1) (by unfold maxLen; omega) (by omega) hs2 ?_; intro v3 w3 hown3 hgrow3; have hb3 : Below w1.heap.size w1 w3 := Below.grownRow hb2 hgrow3 hs2 hown2 (Nat.le_refl _); clear hgrow3; rw [← List.map_append] at hown3; obtain ⟨g, c3, rfl, hg⟩ := own_pos hown3 (by omega); have hs3 := hb3.size)
      | fail)
    have hown4 := hown3
    have hb4 := hb3
    have hus := HZZ.out
    have hmu := HM2.out
    clear hown3 hown2 hb2 hs2 hb3 hs3 hg
    generalize ws ++ zs = us at *
    generalize w3 = W4 at *
    obtain ⟨ag, cg, he, hlg, hIg⟩ := Ints.of_owns hown4
    simp only [Value.slice.injEq, true_and] at he
    obtain ⟨rfl, rfl⟩ := he
    have hcg := own_cap hown4
    have HIw := Lib.hid (Ints.below hb4 HI2.out)
    have HMa := Lib.hid (mark_any (some ⟨b2, o2, none⟩) c2 w1.heap.size ws (by rw [HWL.out]; exact hc2) HWU.out (by rw [HWL.out]; omega) W4 HIw.out)
    have HMb := Lib.hid (fun m => mark_any (some ⟨g, 0, none⟩) c3 W4.heap.size us (by rw [hlg]; exact hcg) hus (by rw [hlg]; omega) (W4.drewN m) hIg)
    rw [HWL.out, HM1.out] at HMa
    rw [hlg, hmu] at HMb
    have HB4 := Lib.hid ((hN1.b.trans (hb4.mono hN1.b.size)) : Below w.heap.size w W4)
    clear hown4 hIg hb4 hN1 hlg hcg hus hmu hIz1 c1
    refine HMa.out.mono ?_
    rintro e w5 ⟨rfl, m, rfl⟩
    go_wp2_with fail
    refine (HMb.out m).mono ?_
    rintro e w6 ⟨rfl, m2, rfl⟩
    go_wp2_with fail
    refine (works_ok _).mono ?_
    rintro e w7 ⟨rfl, hN7⟩
    go_wp2_with fail
    go_ret
    exact ⟨rfl, (below_drewN HB4.out _).trans (hN7.b.mono HB4.out.size)⟩

end Go.Proofs.Ytnmgeembmmbhjaa
