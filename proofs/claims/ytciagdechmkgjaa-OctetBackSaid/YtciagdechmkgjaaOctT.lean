/-
  THE WALK OF OctetBack.
-/
import Derived.Test.YtciagdechmkgjaaOctS
import Derived.Test.YtciagdechmkgjaaOctW
namespace Go.Proofs.Ytciagdechmkgjaa
open Go.RowKit Go.Shelf
set_option linter.unusedVariables false

theorem takeD {P : Program} {ops : Array Oper} {Q : Exit → Act → World → Prop} {md : Region.Mode} {S : World → Prop} {i : Nat} {oi : Oper} {v : Value} {fuel : Nat} {listed : Array Bool} {a : Act} {w : World} (d : Nat) (hi : ops[i]? = some oi) (hd : oi.dst = some d)
    (hs : Region.noSelect ops = true) (hf : Region.free md ops listed i = true) (hr : (Region.ready md ops listed).contains i = true)
    (hQ : ∀ c a w, Q (.panic c) (a.put oi.dst v) w → Q (.panic c) a w) (hy : YieldsIf P ops S oi v a) (hS : S w)
    (h : wpAnyH P md ops Q S fuel (listed.setIfInBounds i true) { a with tmps := a.tmps.setIfInBounds d v } w) : wpAnyH P md ops Q S (fuel + 1) listed a w := by
  refine wpAnyH_take hi hs hf hr hQ hy hS ?_
  rw [hd]; exact h

theorem st_zero (zs : List Int) : stepT zs false 0 = (zs, true) := rfl
theorem st_go (zs : List Int) (n : Nat) (h : n ≠ 0) : stepT zs false n = (zs.drop n, false) := by unfold stepT; rw [if_neg (by simp), if_neg h]

set_option maxRecDepth 100000 in
set_option maxHeartbeats 40000000 in
theorem walk_back (a0 : Option Addr) (len0 cap0 : Nat) (l : List It) (hl : l.length = len0) (hlm : len0 ≤ 9223372036854775807) (hok : ∀ x ∈ l, itOk x ∧ x.s.size ≤ 9223372036854775807)
    (a1 : Option Addr) (len1 cap1 : Nat) (zs : List Int) (hzl : zs.length = len1) (hcap1 : len1 ≤ cap1) (hr1 : len1 ≤ 140737488351232) (hzb : ∀ x ∈ zs, isByte x)
    (w : World) (hI : Recs itC 3 w.heap.size w a0 l) (hIz : Ints w.heap.size .u8 w a1 zs) :
    Calls Try.prog 8 #[.slice a0 len0 cap0, .slice a1 len1 cap1] w fun e w' => e = .returned (.bool true) ∧ Below w.heap.size w w' := by
  by_cases hbig : 60 < len0
  · clear hok hI hl hIz hzl hzb
    have hd : decide (60 < (len0 : Int)) = true := by simp; omega
    go_enter Try.func8, Try.ntmps8
    go_wp2_with fail
    refine (works_any _).mono ?_
    rintro e w1 ⟨rfl, hN⟩
    go_wp2_with fail
    go_ret
    exact ⟨rfl, hN.b⟩
  have hd : decide (60 < (len0 : Int)) = false := by simp; omega
  by_cases hbig1 : 1024 < len1
  · clear hok hI hl hIz hzl hzb
    have hd1 : decide (1024 < (len1 : Int)) = true := by simp; omega
    go_enter Try.func8, Try.ntmps8
    go_wp2_with fail
    refine (works_any _).mono ?_
    rintro e w1 ⟨rfl, hN⟩
    go_wp2_with fail
    go_ret
    exact ⟨rfl, hN.b⟩
  have hd1 : decide (1024 < (len1 : Int)) = false := by simp; omega
  have hl60 : len0 ≤ 60 := by omega
  have hl1k : len1 ≤ 1024 := by omega
  have HL := Lib.hid hl
  have HOK := Lib.hid hok
  have HI := Lib.hid hI
  have HIZ := Lib.hid hIz
  have HZL := Lib.hid hzl
  have HZB := Lib.hid hzb
  clear hl hok hI hbig hbig1 hIz hzl hzb
  go_enter Try.func8, Try.ntmps8
  go_wp2_with fail
  go_loopw [5, 6] (fun b i wr => ∃ (k : Nat) (a : Option Addr) (c : Nat), k ≤ len0 ∧ i = .int .i64 k ∧ b = .slice a (endOf l k) c ∧ Ints wr.heap.size .u8 wr a (itsL (l.take k)) ∧ Below w.heap.size w wr ∧ (∀ x ∈ l.take k, x.s.size ≤ 1024) ∧ endOf l k ≤ k * 1033 ∧ endOf l k ≤ c) (fun _ i _ => len0 - (intOf i).toNat)
  case atStart => exact ⟨0, none, 0, Nat.zero_le _, rfl, rfl, .inl rfl, Below.refl _ _, by simp, by simp [endOf, itsL], by simp [endOf, itsL]⟩
  case round =>
  obtain ⟨k, a, c, hk, rfl, rfl, hIb, hB, hsz, hel, hec⟩ := hrel
  have HIb := Lib.hid hIb
  have HB := Lib.hid hB
  have HSZ := Lib.hid hsz
  clear hIb hB hsz
  by_cases hlt : k < len0
  · have hkl : k < l.length := by rw [HL.out]; exact hlt
    obtain ⟨ib, io, rfl, hib, hc0, hc1, hc2⟩ := items_at HI.out hkl
    have g0 := (HB.out.cell (p := ⟨ib, io + k * 3, none⟩) hib).trans hc0
    have g1 := (HB.out.cell (p := ⟨ib, io + k * 3 + 1, none⟩) hib).trans hc1
    have g2 := (HB.out.cell (p := ⟨ib, io + k * 3 + 2, none⟩) hib).trans hc2
    obtain ⟨hxo, hxs⟩ := HOK.out l[k] (List.getElem_mem hkl)
    have HES := Lib.hid (endOf_succ l k hkl)
    have HTS := Lib.hid (take_snoc' l k hkl)
    obtain ⟨x, hx⟩ : ∃ x, l[k] = x := ⟨_, rfl⟩
    rw [hx] at g0 g1 g2 hxo hxs HES HTS
    have HXO := Lib.hid hxo
    clear hx hc0 hc1 hc2 hxo
    by_cases hs1 : 1024 < x.s.size
    · go_wp2_with fail
      refine (works_any _).mono ?_
      rintro e w1 ⟨rfl, hN⟩
      go_wp2_with fail
      go_ret
      exact ⟨rfl, HB.out.trans (hN.b.mono HB.out.size)⟩
    have HIL := Lib.hid (itL_len x HXO.out (by omega))
    have HEL : Hid ((itsL (l.take k)).length = endOf l k) := rfl
    have HPK := Lib.hid (pack_any x.s (by omega))
    have hqz : qOf (strB x.s).length = qOf x.s.size := by rw [strB_length]
    obtain ⟨Q, hQ⟩ : ∃ Q, qOf x.s.size = Q := ⟨_, rfl⟩
    have HPL : Hid ((packL (strB x.s)).length = Q) := by show _ = _; rw [packL_length, hqz, hQ]
    have HPU : Hid (∀ y ∈ packL (strB x.s), isU64 y) := packL_u64 _ (strB_byte _)
    have hq2 : (x.s.size + 7) / 8 = Q := by rw [← hQ]; rfl
    have HQ8 : Hid (Q * 8 ≤ 140737488351232) := by show Q * 8 ≤ _; omega
    have HQS : Hid (x.s.size ≤ 8 * Q) := by show x.s.size ≤ 8 * Q; omega
    have HUS : Hid (strOfNums (unpL (packL (strB x.s)) x.s.size) = x.s) := by
      show _ = _
      rw [unpL_pack _ (strB_byte _) _ (by rw [hqz, hQ]; exact HQS.out)]
      have : (padL (strB x.s)).take x.s.size = strB x.s := by
        unfold padL
        rw [List.take_append_of_le_length (by rw [strB_length]; exact Nat.le_refl _), List.take_of_length_le (by rw [strB_length]; exact Nat.le_refl _)]
      rw [this, strOf_strB]
    clear hqz hQ hq2
    cases hxi : x.is
    · rw [hxi] at g0
      have HXI := Lib.hid hxi
      obtain ⟨xn, hxn⟩ : ∃ xn : Nat, x.n = (xn : Int) := ⟨x.n.toNat, by have := HXO.out.1; omega⟩
      rw [hxn] at g1
      have hn64 : (xn : Int) ≤ 18446744073709551615 := by have := HXO.out.2; omega
      have HXN := Lib.hid hxn
      have HITL : Hid (itL x = numL xn) := by show _ = _; unfold itL; rw [HXI.out, HXN.out]; simp
      clear hxi hxn
      go_wp2_with fail
      refine (number_any a _ c _ HEL.out (by omega) xn hn64 _ HIb.out).mono ?_
      intro e w1 h1
      obtain ⟨a1', c1', rfl, hI1', hN1, hc1'⟩ := h1.slice
      rw [← HITL.out, ← itsL_snoc, ← HTS.out] at hI1' hc1' ⊢
      have HE1 : Hid ((itsL (l.take (k + 1))).length = endOf l (k + 1)) := rfl
      rw [HE1.out] at hc1' ⊢
      have hes : endOf l (k + 1) ≤ (k + 1) * 1033 := by have := HES.out; have := HIL.out; omega
      obtain ⟨E, hE⟩ : ∃ E, endOf l (k + 1) = E := ⟨_, rfl⟩
      rw [hE] at hc1' hes ⊢
      have HEE := Lib.hid hE
      have HI1b := Lib.hid hI1'
      have HB1 := Lib.hid (HB.out.trans (hN1.b.mono HB.out.size))
      have e2 : w1.cell? ⟨ib, io + k * 3 + 2, none⟩ = some (.string x.s) := (hN1.b.cell (p := ⟨ib, io + k * 3 + 2, none⟩) (by have := HB.out.size; show ib < _; omega)).trans g2
      clear hN1 hE h1 hI1'
      go_wp2_with fail
      go_region_held3 (fun w' => w'.cell? ⟨ib, io + k * 3 + 2, none⟩ = some (.string x.s) ∧ Nw w1 w')
        (first | (exact ⟨e2, Nw.refl.drew⟩) | (go_split_ands; exact ⟨(kx.b.cell (p := ⟨ib, io + k * 3 + 2, none⟩) (cell_lt (by assumption)).1).trans (by assumption), Nw.trans (by assumption) kx⟩))
        ((first | (go_at_call 11; refine (HPK.out _).mono ?_; intro e wP hP; obtain ⟨aP, cP, rfl, hIP, kx, hcP⟩ := hP.sliceN HPL.out; have HIP := Lib.hid hIP; clear hP hIP) | (go_at_call 12; refine (unpack_yes aP Q cP _ HPL.out HPU.out HQ8.out _ HQS.out _ HIP.out).mono ?_; rintro e wQ ⟨rfl, kx⟩; rw [HUS.out])))
      obtain ⟨e3, hN9⟩ : wQ.cell? ⟨ib, io + k * 3 + 2, none⟩ = some (.string x.s) ∧ Nw w1 wQ := by assumption
      have HN9 := Lib.hid hN9
      clear hN9 kx
      go_wp2_with fail
      go_roundw
      case rel => exact ⟨k + 1, a1', c1', by omega, by go_num, by rw [HEE.out], HN9.out.ints HI1b.out, HB1.out.trans (HN9.out.b.mono HB1.out.size), fun y hy => by rw [HTS.out] at hy; rcases List.mem_append.1 hy with h | h; exact HSZ.out y h; simp at h; subst h; omega, by rw [HEE.out]; omega, by rw [HEE.out]; exact hc1'⟩
      case measure => simp [intOf]; omega
    · rw [hxi] at g0
      have HXI := Lib.hid hxi
      have HITL : Hid (itL x = numL x.s.size ++ strB x.s) := by show _ = _; unfold itL; rw [HXI.out]; simp
      clear hxi
      go_wp2_with fail
      refine (text_any a _ c _ x.s HEL.out (by omega) _ HIb.out).mono ?_
      intro e w1 h1
      obtain ⟨a1', c1', rfl, hI1', hN1, hc1'⟩ := h1.slice
      rw [← HITL.out, ← itsL_snoc, ← HTS.out] at hI1' hc1' ⊢
      have HE1 : Hid ((itsL (l.take (k + 1))).length = endOf l (k + 1)) := rfl
      rw [HE1.out] at hc1' ⊢
      have hes : endOf l (k + 1) ≤ (k + 1) * 1033 := by have := HES.out; have := HIL.out; omega
      obtain ⟨E, hE⟩ : ∃ E, endOf l (k + 1) = E := ⟨_, rfl⟩
      rw [hE] at hc1' hes ⊢
      have HEE := Lib.hid hE
      have HI1b := Lib.hid hI1'
      have HB1 := Lib.hid (HB.out.trans (hN1.b.mono HB.out.size))
      have e2 : w1.cell? ⟨ib, io + k * 3 + 2, none⟩ = some (.string x.s) := (hN1.b.cell (p := ⟨ib, io + k * 3 + 2, none⟩) (by have := HB.out.size; show ib < _; omega)).trans g2
      clear hN1 hE h1 hI1'
      go_wp2_with fail
      go_region_held3 (fun w' => w'.cell? ⟨ib, io + k * 3 + 2, none⟩ = some (.string x.s) ∧ Nw w1 w')
        (first | (exact ⟨e2, Nw.refl.drew⟩) | (go_split_ands; exact ⟨(kx.b.cell (p := ⟨ib, io + k * 3 + 2, none⟩) (cell_lt (by assumption)).1).trans (by assumption), Nw.trans (by assumption) kx⟩))
        ((first | (go_at_call 11; refine (HPK.out _).mono ?_; intro e wP hP; obtain ⟨aP, cP, rfl, hIP, kx, hcP⟩ := hP.sliceN HPL.out; have HIP := Lib.hid hIP; clear hP hIP) | (go_at_call 12; refine (unpack_yes aP Q cP _ HPL.out HPU.out HQ8.out _ HQS.out _ HIP.out).mono ?_; rintro e wQ ⟨rfl, kx⟩; rw [HUS.out])))
      obtain ⟨e3, hN9⟩ : wQ.cell? ⟨ib, io + k * 3 + 2, none⟩ = some (.string x.s) ∧ Nw w1 wQ := by assumption
      have HN9 := Lib.hid hN9
      clear hN9 kx
      go_wp2_with fail
      go_roundw
      case rel => exact ⟨k + 1, a1', c1', by omega, by go_num, by rw [HEE.out], HN9.out.ints HI1b.out, HB1.out.trans (HN9.out.b.mono HB1.out.size), fun y hy => by rw [HTS.out] at hy; rcases List.mem_append.1 hy with h | h; exact HSZ.out y h; simp at h; subst h; omega, by rw [HEE.out]; omega, by rw [HEE.out]; exact hc1'⟩
      case measure => simp [intOf]; omega
  obtain rfl : k = len0 := by omega
  have hta : l.take k = l := List.take_of_length_le (by rw [HL.out]; exact Nat.le_refl _)
  have HSA : Hid (∀ x ∈ l, x.s.size ≤ 1024) := by have := HSZ.out; rw [hta] at this; exact this
  rw [hta] at HIb
  have HBY : Hid (∀ c ∈ itsL l, isByte c) := itsL_byte l (fun x hx => (HOK.out x hx).1) HSA.out
  have HLE : Hid ((itsL l).length = endOf l k) := by show _ = _; rw [← endOf_all, HL.out]
  obtain ⟨E, hE⟩ : ∃ E, endOf l k = E := ⟨_, rfl⟩
  rw [hE] at hel hec HLE ⊢
  clear hE hta hlt
  go_wp2_with fail
  refine (new_any a E c (itsL l) HLE.out (by omega) HBY.out _ HIb.out).mono ?_
  rintro e Wn ⟨t, rfl, ht, hT, hN⟩
  have hbt := HB.out.size
  have hwt : w.heap.size ≤ t := by omega
  have HBN := Lib.hid (HB.out.trans (hN.b.mono HB.out.size))
  have HTN := Lib.hid hT
  clear hN hT
  go_wp2_with fail
  go_loopw [10] (fun i wr => ∃ (k' : Nat), k' ≤ k ∧ i = .int .i64 k' ∧ TapeAt wr t (itsL (l.drop k')) false ∧ Up t Wn wr) (fun i _ => k - (intOf i).toNat)
  case atStart => exact ⟨0, Nat.zero_le _, rfl, HTN.out, Up.refl _ _⟩
  case round =>
  obtain ⟨k', hk', rfl, hT, hup⟩ := hrel
  by_cases hlt : k' < k
  · have hkl : k' < l.length := by rw [HL.out]; exact hlt
    obtain ⟨ib, io, rfl, hib, hc0, hc1, hc2⟩ := items_at HI.out hkl
    have hBw : Below w.heap.size w wr := Up.below HBN.out hup HBN.out.size (by omega)
    have g0 := (hBw.cell (p := ⟨ib, io + k' * 3, none⟩) hib).trans hc0
    have g1 := (hBw.cell (p := ⟨ib, io + k' * 3 + 1, none⟩) hib).trans hc1
    have g2 := (hBw.cell (p := ⟨ib, io + k' * 3 + 2, none⟩) hib).trans hc2
    have HBw := Lib.hid hBw
    obtain ⟨hxo, _⟩ := HOK.out l[k'] (List.getElem_mem hkl)
    have hxs := HSA.out l[k'] (List.getElem_mem hkl)
    rw [List.drop_eq_getElem_cons hkl, itsL_cons] at hT
    obtain ⟨x, hx⟩ : ∃ x, l[k'] = x := ⟨_, rfl⟩
    rw [hx] at g0 g1 g2 hxo hxs hT
    have HXO := Lib.hid hxo
    have hm63 : (x.s.size : Int) ≤ 9223372036854775807 := by omega
    have HUP := Lib.hid hup
    obtain ⟨ps, hps⟩ : ∃ ps, itsL (l.drop (k' + 1)) = ps := ⟨_, rfl⟩
    rw [hps] at hT
    have HPS := Lib.hid hps
    have HTD := Lib.hid (hT.nw (Nw.refl.drew))
    have HCE := Lib.hid (end_any t _ false _ HTD.out)
    have he : endB (itL x ++ ps) false = false := by
      have := itL_pos x
      unfold endB; rw [decide_eq_false (by rw [List.length_append]; omega)]; rfl
    rw [he] at HCE
    clear hc0 hc1 hc2 hx hxo hBw hup hT hps he
    cases hxi : x.is
    · rw [hxi] at g0
      have HC := Lib.hid (tnumber_any t _ false _ HTD.out)
      rw [(it_number x HXO.out hxi _).1, (it_number x HXO.out hxi _).2] at HC
      have HXI := Lib.hid hxi
      clear hxi
      go_wp2_with fail
      refine wp_region_noPanic ?_
      refine wp_region_held_drew (S := (fun w' => w'.cell? ⟨ib, io + k' * 3, none⟩ = some (.bool false) ∧ w'.cell? ⟨ib, io + k' * 3 + 1, none⟩ = some (.int .u64 x.n) ∧ w'.cell? ⟨ib, io + k' * 3 + 2, none⟩ = some (.string x.s) ∧ Below w.heap.size w w')) (by kernel_rfl) ?_ (fun hHeld => ?_)
      · exact ⟨g0, g1, g2, HBw.out.drew⟩
      refine takeD (i := 0) (v := ?_) 94 rfl rfl ?_ ?_ ?_ (fun _ _ _ h => h) ?_ (by assumption) ?_
      rotate_left
      · kernel_rfl
      · kernel_rfl
      · kernel_rfl
      · refine Or.inl (And.intro ?_ ?_)
        · rfl
        · intro w hSw
          try dsimp only at hSw
          first | (go_simp; done) | (go_simp; with_reducible rfl)
      simp only [List.setIfInBounds_toArray, List.set_cons_zero, List.set_cons_succ]
      refine wpAnyH_ready (rs := [1]) (by kernel_rfl) (by simp) ?_
      refine AllReadyH.cons rfl (fun K hK => ?_) AllReadyH.nil
      go_simp
      go_wp2_with (go_at_call 22; refine HCE.out.mono ?_; rintro e w4 ⟨rfl, rfl⟩)
      refine hK.out _ _ ?_ (fun hHeld2 => ?_)
      · exact hHeld
      have hHeld := hHeld2
      clear hHeld2 hK K
      refine takeD (i := 2) (v := ?_) 96 rfl rfl ?_ ?_ ?_ (fun _ _ _ h => h) ?_ (by assumption) ?_
      rotate_left
      · kernel_rfl
      · kernel_rfl
      · kernel_rfl
      · refine Or.inl (And.intro ?_ ?_)
        · rfl
        · intro w hSw
          try dsimp only at hSw
          first | (go_simp; done) | (go_simp; with_reducible rfl)
      simp only [List.setIfInBounds_toArray, List.set_cons_zero, List.set_cons_succ]
      refine takeD (i := 3) (v := ?_) 97 rfl rfl ?_ ?_ ?_ (fun _ _ _ h => h) ?_ (by assumption) ?_
      rotate_left
      · kernel_rfl
      · kernel_rfl
      · kernel_rfl
      · refine Or.inl (And.intro ?_ ?_)
        · rfl
        · intro w hSw
          try dsimp only at hSw
          first | (go_simp; done) | (go_simp; with_reducible rfl)
      simp only [List.setIfInBounds_toArray, List.set_cons_zero, List.set_cons_succ]
      refine takeD (i := 4) (v := ?_) 98 rfl rfl ?_ ?_ ?_ (fun _ _ _ h => h) ?_ (by assumption) ?_
      rotate_left
      · kernel_rfl
      · kernel_rfl
      · kernel_rfl
      · refine Or.inl (And.intro ?_ ?_)
        · rfl
        · intro w hSw
          try dsimp only at hSw
          first | (go_simp; done) | (go_simp; with_reducible rfl)
      simp only [List.setIfInBounds_toArray, List.set_cons_zero, List.set_cons_succ]
      refine takeD (i := 5) (v := ?_) 99 rfl rfl ?_ ?_ ?_ (fun _ _ _ h => h) ?_ (by assumption) ?_
      rotate_left
      · kernel_rfl
      · kernel_rfl
      · kernel_rfl
      · refine Or.inl (And.intro ?_ ?_)
        · rfl
        · intro w hSw
          try dsimp only at hSw
          first | (go_simp; done) | (go_simp; with_reducible rfl)
      simp only [List.setIfInBounds_toArray, List.set_cons_zero, List.set_cons_succ]
      refine takeD (i := 6) (v := ?_) 100 rfl rfl ?_ ?_ ?_ (fun _ _ _ h => h) ?_ (by assumption) ?_
      rotate_left
      · kernel_rfl
      · kernel_rfl
      · kernel_rfl
      · refine Or.inl (And.intro ?_ ?_)
        · rfl
        · intro w hSw
          try dsimp only at hSw
          first | (go_simp; done) | (go_simp; with_reducible rfl)
      simp only [List.setIfInBounds_toArray, List.set_cons_zero, List.set_cons_succ]
      refine takeD (i := 7) (v := ?_) 101 rfl rfl ?_ ?_ ?_ (fun _ _ _ h => h) ?_ (by assumption) ?_
      rotate_left
      · kernel_rfl
      · kernel_rfl
      · kernel_rfl
      · refine Or.inl (And.intro ?_ ?_)
        · rfl
        · intro w hSw
          try dsimp only at hSw
          first | (go_simp; done) | (go_simp; with_reducible rfl)
      simp only [List.setIfInBounds_toArray, List.set_cons_zero, List.set_cons_succ]
      refine takeD (i := 8) (v := ?_) 102 rfl rfl ?_ ?_ ?_ (fun _ _ _ h => h) ?_ (by assumption) ?_
      rotate_left
      · kernel_rfl
      · kernel_rfl
      · kernel_rfl
      · refine Or.inl (And.intro ?_ ?_)
        · rfl
        · intro w hSw
          try dsimp only at hSw
          first | (go_simp; done) | (go_simp; with_reducible rfl)
      simp only [List.setIfInBounds_toArray, List.set_cons_zero, List.set_cons_succ]
      refine takeD (i := 9) (v := undef) 103 rfl rfl ?_ ?_ ?_ (fun _ _ _ h => h) (Or.inr (And.intro ?_ rfl)) (by assumption) ?_
      · kernel_rfl
      · kernel_rfl
      · kernel_rfl
      · rfl
      simp only [List.setIfInBounds_toArray, List.set_cons_zero, List.set_cons_succ]
      refine takeD (i := 10) (v := undef) 104 rfl rfl ?_ ?_ ?_ (fun _ _ _ h => h) (Or.inr (And.intro ?_ rfl)) (by assumption) ?_
      · kernel_rfl
      · kernel_rfl
      · kernel_rfl
      · rfl
      simp only [List.setIfInBounds_toArray, List.set_cons_zero, List.set_cons_succ]
      refine takeD (i := 11) (v := undef) 105 rfl rfl ?_ ?_ ?_ (fun _ _ _ h => h) (Or.inr (And.intro ?_ rfl)) (by assumption) ?_
      · kernel_rfl
      · kernel_rfl
      · kernel_rfl
      · rfl
      simp only [List.setIfInBounds_toArray, List.set_cons_zero, List.set_cons_succ]
      refine takeD (i := 12) (v := undef) 106 rfl rfl ?_ ?_ ?_ (fun _ _ _ h => h) (Or.inr (And.intro ?_ rfl)) (by assumption) ?_
      · kernel_rfl
      · kernel_rfl
      · kernel_rfl
      · rfl
      simp only [List.setIfInBounds_toArray, List.set_cons_zero, List.set_cons_succ]
      refine takeD (i := 13) (v := undef) 107 rfl rfl ?_ ?_ ?_ (fun _ _ _ h => h) (Or.inr (And.intro ?_ rfl)) (by assumption) ?_
      · kernel_rfl
      · kernel_rfl
      · kernel_rfl
      · rfl
      simp only [List.setIfInBounds_toArray, List.set_cons_zero, List.set_cons_succ]
      refine takeD (i := 14) (v := undef) 108 rfl rfl ?_ ?_ ?_ (fun _ _ _ h => h) (Or.inr (And.intro ?_ rfl)) (by assumption) ?_
      · kernel_rfl
      · kernel_rfl
      · kernel_rfl
      · rfl
      simp only [List.setIfInBounds_toArray, List.set_cons_zero, List.set_cons_succ]
      refine takeD (i := 15) (v := undef) 109 rfl rfl ?_ ?_ ?_ (fun _ _ _ h => h) (Or.inr (And.intro ?_ rfl)) (by assumption) ?_
      · kernel_rfl
      · kernel_rfl
      · kernel_rfl
      · rfl
      simp only [List.setIfInBounds_toArray, List.set_cons_zero, List.set_cons_succ]
      refine takeD (i := 17) (v := undef) 111 rfl rfl ?_ ?_ ?_ (fun _ _ _ h => h) (Or.inr (And.intro ?_ rfl)) (by assumption) ?_
      · kernel_rfl
      · kernel_rfl
      · kernel_rfl
      · rfl
      simp only [List.setIfInBounds_toArray, List.set_cons_zero, List.set_cons_succ]
      refine takeD (i := 18) (v := undef) 112 rfl rfl ?_ ?_ ?_ (fun _ _ _ h => h) (Or.inr (And.intro ?_ rfl)) (by assumption) ?_
      · kernel_rfl
      · kernel_rfl
      · kernel_rfl
      · rfl
      simp only [List.setIfInBounds_toArray, List.set_cons_zero, List.set_cons_succ]
      refine takeD (i := 19) (v := undef) 113 rfl rfl ?_ ?_ ?_ (fun _ _ _ h => h) (Or.inr (And.intro ?_ rfl)) (by assumption) ?_
      · kernel_rfl
      · kernel_rfl
      · kernel_rfl
      · rfl
      simp only [List.setIfInBounds_toArray, List.set_cons_zero, List.set_cons_succ]
      refine takeD (i := 20) (v := undef) 114 rfl rfl ?_ ?_ ?_ (fun _ _ _ h => h) (Or.inr (And.intro ?_ rfl)) (by assumption) ?_
      · kernel_rfl
      · kernel_rfl
      · kernel_rfl
      · rfl
      simp only [List.setIfInBounds_toArray, List.set_cons_zero, List.set_cons_succ]
      refine takeD (i := 21) (v := undef) 115 rfl rfl ?_ ?_ ?_ (fun _ _ _ h => h) (Or.inr (And.intro ?_ rfl)) (by assumption) ?_
      · kernel_rfl
      · kernel_rfl
      · kernel_rfl
      · rfl
      simp only [List.setIfInBounds_toArray, List.set_cons_zero, List.set_cons_succ]
      refine wpAnyH_ready (rs := [16]) (by kernel_rfl) (by simp) ?_
      refine AllReadyH.cons rfl (fun K hK => ?_) AllReadyH.nil
      go_simp
      refine hK.out _ _ ?_ (fun hHeld2 => ?_)
      · exact hHeld
      have hHeld := hHeld2
      clear hHeld2 hK K
      refine takeD (i := 22) (v := undef) 116 rfl rfl ?_ ?_ ?_ (fun _ _ _ h => h) (Or.inr (And.intro ?_ rfl)) (by assumption) ?_
      · kernel_rfl
      · kernel_rfl
      · kernel_rfl
      · rfl
      simp only [List.setIfInBounds_toArray, List.set_cons_zero, List.set_cons_succ]
      refine takeD (i := 23) (v := ?_) 117 rfl rfl ?_ ?_ ?_ (fun _ _ _ h => h) ?_ (by assumption) ?_
      rotate_left
      · kernel_rfl
      · kernel_rfl
      · kernel_rfl
      · refine Or.inl (And.intro ?_ ?_)
        · rfl
        · intro w hSw
          try dsimp only at hSw
          first | (go_simp; done) | (go_simp; with_reducible rfl)
      simp only [List.setIfInBounds_toArray, List.set_cons_zero, List.set_cons_succ]
      refine takeD (i := 24) (v := ?_) 118 rfl rfl ?_ ?_ ?_ (fun _ _ _ h => h) ?_ (by assumption) ?_
      rotate_left
      · kernel_rfl
      · kernel_rfl
      · kernel_rfl
      · refine Or.inl (And.intro ?_ ?_)
        · rfl
        · intro w hSw
          try dsimp only at hSw
          first | (go_simp; done) | (go_simp; with_reducible rfl)
      simp only [List.setIfInBounds_toArray, List.set_cons_zero, List.set_cons_succ]
      refine takeD (i := 25) (v := ?_) 119 rfl rfl ?_ ?_ ?_ (fun _ _ _ h => h) ?_ (by assumption) ?_
      rotate_left
      · kernel_rfl
      · kernel_rfl
      · kernel_rfl
      · refine Or.inl (And.intro ?_ ?_)
        · rfl
        · intro w hSw
          try dsimp only at hSw
          first | (go_simp; done) | (go_simp; with_reducible rfl)
      simp only [List.setIfInBounds_toArray, List.set_cons_zero, List.set_cons_succ]
      refine takeD (i := 26) (v := ?_) 120 rfl rfl ?_ ?_ ?_ (fun _ _ _ h => h) ?_ (by assumption) ?_
      rotate_left
      · kernel_rfl
      · kernel_rfl
      · kernel_rfl
      · refine Or.inl (And.intro ?_ ?_)
        · rfl
        · intro w hSw
          try dsimp only at hSw
          first | (go_simp; done) | (go_simp; with_reducible rfl)
      simp only [List.setIfInBounds_toArray, List.set_cons_zero, List.set_cons_succ]
      refine takeD (i := 27) (v := ?_) 121 rfl rfl ?_ ?_ ?_ (fun _ _ _ h => h) ?_ (by assumption) ?_
      rotate_left
      · kernel_rfl
      · kernel_rfl
      · kernel_rfl
      · refine Or.inl (And.intro ?_ ?_)
        · rfl
        · intro w hSw
          try dsimp only at hSw
          first | (go_simp; done) | (go_simp; with_reducible rfl)
      simp only [List.setIfInBounds_toArray, List.set_cons_zero, List.set_cons_succ]
      refine takeD (i := 28) (v := ?_) 122 rfl rfl ?_ ?_ ?_ (fun _ _ _ h => h) ?_ (by assumption) ?_
      rotate_left
      · kernel_rfl
      · kernel_rfl
      · kernel_rfl
      · refine Or.inl (And.intro ?_ ?_)
        · rfl
        · intro w hSw
          try dsimp only at hSw
          first | (go_simp; done) | (go_simp; with_reducible rfl)
      simp only [List.setIfInBounds_toArray, List.set_cons_zero, List.set_cons_succ]
      refine takeD (i := 29) (v := ?_) 123 rfl rfl ?_ ?_ ?_ (fun _ _ _ h => h) ?_ (by assumption) ?_
      rotate_left
      · kernel_rfl
      · kernel_rfl
      · kernel_rfl
      · refine Or.inl (And.intro ?_ ?_)
        · rfl
        · intro w hSw
          try dsimp only at hSw
          first | (go_simp; done) | (go_simp; with_reducible rfl)
      simp only [List.setIfInBounds_toArray, List.set_cons_zero, List.set_cons_succ]
      refine takeD (i := 30) (v := ?_) 124 rfl rfl ?_ ?_ ?_ (fun _ _ _ h => h) ?_ (by assumption) ?_
      rotate_left
      · kernel_rfl
      · kernel_rfl
      · kernel_rfl
      · refine Or.inl (And.intro ?_ ?_)
        · rfl
        · intro w hSw
          try dsimp only at hSw
          first | (go_simp; done) | (go_simp; with_reducible rfl)
      simp only [List.setIfInBounds_toArray, List.set_cons_zero, List.set_cons_succ]
      refine takeD (i := 31) (v := ?_) 125 rfl rfl ?_ ?_ ?_ (fun _ _ _ h => h) ?_ (by assumption) ?_
      rotate_left
      · kernel_rfl
      · kernel_rfl
      · kernel_rfl
      · refine Or.inl (And.intro ?_ ?_)
        · rfl
        · intro w hSw
          try dsimp only at hSw
          first | (go_simp; done) | (go_simp; with_reducible rfl)
      simp only [List.setIfInBounds_toArray, List.set_cons_zero, List.set_cons_succ]
      refine takeD (i := 32) (v := ?_) 126 rfl rfl ?_ ?_ ?_ (fun _ _ _ h => h) ?_ (by assumption) ?_
      rotate_left
      · kernel_rfl
      · kernel_rfl
      · kernel_rfl
      · refine Or.inl (And.intro ?_ ?_)
        · rfl
        · intro w hSw
          try dsimp only at hSw
          first | (go_simp; done) | (go_simp; with_reducible rfl)
      simp only [List.setIfInBounds_toArray, List.set_cons_zero, List.set_cons_succ]
      refine takeD (i := 33) (v := ?_) 127 rfl rfl ?_ ?_ ?_ (fun _ _ _ h => h) ?_ (by assumption) ?_
      rotate_left
      · kernel_rfl
      · kernel_rfl
      · kernel_rfl
      · refine Or.inl (And.intro ?_ ?_)
        · rfl
        · intro w hSw
          try dsimp only at hSw
          first | (go_simp; done) | (go_simp; with_reducible rfl)
      simp only [List.setIfInBounds_toArray, List.set_cons_zero, List.set_cons_succ]
      refine takeD (i := 35) (v := ?_) 129 rfl rfl ?_ ?_ ?_ (fun _ _ _ h => h) ?_ (by assumption) ?_
      rotate_left
      · kernel_rfl
      · kernel_rfl
      · kernel_rfl
      · refine Or.inl (And.intro ?_ ?_)
        · rfl
        · intro w hSw
          try dsimp only at hSw
          first | (go_simp; done) | (go_simp; with_reducible rfl)
      simp only [List.setIfInBounds_toArray, List.set_cons_zero, List.set_cons_succ]
      refine takeD (i := 36) (v := ?_) 130 rfl rfl ?_ ?_ ?_ (fun _ _ _ h => h) ?_ (by assumption) ?_
      rotate_left
      · kernel_rfl
      · kernel_rfl
      · kernel_rfl
      · refine Or.inl (And.intro ?_ ?_)
        · rfl
        · intro w hSw
          try dsimp only at hSw
          first | (go_simp; done) | (go_simp; with_reducible rfl)
      simp only [List.setIfInBounds_toArray, List.set_cons_zero, List.set_cons_succ]
      refine takeD (i := 37) (v := ?_) 131 rfl rfl ?_ ?_ ?_ (fun _ _ _ h => h) ?_ (by assumption) ?_
      rotate_left
      · kernel_rfl
      · kernel_rfl
      · kernel_rfl
      · refine Or.inl (And.intro ?_ ?_)
        · rfl
        · intro w hSw
          try dsimp only at hSw
          first | (go_simp; done) | (go_simp; with_reducible rfl)
      simp only [List.setIfInBounds_toArray, List.set_cons_zero, List.set_cons_succ]
      refine takeD (i := 38) (v := ?_) 132 rfl rfl ?_ ?_ ?_ (fun _ _ _ h => h) ?_ (by assumption) ?_
      rotate_left
      · kernel_rfl
      · kernel_rfl
      · kernel_rfl
      · refine Or.inl (And.intro ?_ ?_)
        · rfl
        · intro w hSw
          try dsimp only at hSw
          first | (go_simp; done) | (go_simp; with_reducible rfl)
      simp only [List.setIfInBounds_toArray, List.set_cons_zero, List.set_cons_succ]
      refine takeD (i := 39) (v := ?_) 133 rfl rfl ?_ ?_ ?_ (fun _ _ _ h => h) ?_ (by assumption) ?_
      rotate_left
      · kernel_rfl
      · kernel_rfl
      · kernel_rfl
      · refine Or.inl (And.intro ?_ ?_)
        · rfl
        · intro w hSw
          try dsimp only at hSw
          first | (go_simp; done) | (go_simp; with_reducible rfl)
      simp only [List.setIfInBounds_toArray, List.set_cons_zero, List.set_cons_succ]
      refine wpAnyH_ready (rs := [34]) (by kernel_rfl) (by simp) ?_
      refine AllReadyH.cons rfl (fun K hK => ?_) AllReadyH.nil
      go_simp
      go_wp2_with ((go_at_call 17; refine HC.out.mono ?_; rintro e w5 ⟨rfl, hT5, hU5⟩; have HT5 := Lib.hid hT5; clear hT5))
      refine hK.out _ _ ?_ (fun hHeld2 => ?_)
      · exact ⟨hU5.cell hHeld.1 (show ib ≠ t by omega), hU5.cell hHeld.2.1 (show ib ≠ t by omega), hU5.cell hHeld.2.2.1 (show ib ≠ t by omega), Up.below HBw.out.drew hU5 HBw.out.size hwt⟩
      have hHeld := hHeld2
      clear hHeld2 hK K
      refine takeD (i := 40) (v := ?_) 134 rfl rfl ?_ ?_ ?_ (fun _ _ _ h => h) ?_ (by assumption) ?_
      rotate_left
      · kernel_rfl
      · kernel_rfl
      · kernel_rfl
      · refine Or.inl (And.intro ?_ ?_)
        · rfl
        · intro w hSw
          try dsimp only at hSw
          first | (go_simp; done) | (go_simp; with_reducible rfl)
      simp only [List.setIfInBounds_toArray, List.set_cons_zero, List.set_cons_succ]
      refine takeD (i := 41) (v := ?_) 135 rfl rfl ?_ ?_ ?_ (fun _ _ _ h => h) ?_ (by assumption) ?_
      rotate_left
      · kernel_rfl
      · kernel_rfl
      · kernel_rfl
      · refine Or.inl (And.intro ?_ ?_)
        · rfl
        · intro w hSw
          try dsimp only at hSw
          first | (go_simp; done) | (go_simp; with_reducible rfl)
      simp only [List.setIfInBounds_toArray, List.set_cons_zero, List.set_cons_succ]
      refine takeD (i := 42) (v := ?_) 136 rfl rfl ?_ ?_ ?_ (fun _ _ _ h => h) ?_ (by assumption) ?_
      rotate_left
      · kernel_rfl
      · kernel_rfl
      · kernel_rfl
      · refine Or.inl (And.intro ?_ ?_)
        · rfl
        · intro w hSw
          try dsimp only at hSw
          first | (go_simp; done) | (go_simp; with_reducible rfl)
      simp only [List.setIfInBounds_toArray, List.set_cons_zero, List.set_cons_succ]
      refine takeD (i := 43) (v := ?_) 137 rfl rfl ?_ ?_ ?_ (fun _ _ _ h => h) ?_ (by assumption) ?_
      rotate_left
      · kernel_rfl
      · kernel_rfl
      · kernel_rfl
      · refine Or.inl (And.intro ?_ ?_)
        · rfl
        · intro w hSw
          try dsimp only at hSw
          first | (go_simp; done) | (go_simp; with_reducible rfl)
      simp only [List.setIfInBounds_toArray, List.set_cons_zero, List.set_cons_succ]
      refine takeD (i := 44) (v := ?_) 138 rfl rfl ?_ ?_ ?_ (fun _ _ _ h => h) ?_ (by assumption) ?_
      rotate_left
      · kernel_rfl
      · kernel_rfl
      · kernel_rfl
      · refine Or.inl (And.intro ?_ ?_)
        · rfl
        · intro w hSw
          try dsimp only at hSw
          first | (go_simp; done) | (go_simp; with_reducible rfl)
      simp only [List.setIfInBounds_toArray, List.set_cons_zero, List.set_cons_succ]
      refine wpAnyH_ready (rs := [45]) (by kernel_rfl) (by simp) ?_
      refine AllReadyH.cons rfl (fun K hK => ?_) AllReadyH.nil
      go_simp
      go_wp2_with (go_at_call 21; refine (torn_any t ps false _ HT5.out).mono ?_; rintro e w6 ⟨rfl, rfl⟩)
      refine hK.out _ _ ?_ (fun hHeld2 => ?_)
      · exact hHeld
      have hHeld := hHeld2
      clear hHeld2 hK K
      refine takeD (i := 46) (v := ?_) 140 rfl rfl ?_ ?_ ?_ (fun _ _ _ h => h) ?_ (by assumption) ?_
      rotate_left
      · kernel_rfl
      · kernel_rfl
      · kernel_rfl
      · refine Or.inl (And.intro ?_ ?_)
        · rfl
        · intro w hSw
          try dsimp only at hSw
          first | (go_simp; done) | (go_simp; with_reducible rfl)
      simp only [List.setIfInBounds_toArray, List.set_cons_zero, List.set_cons_succ]
      refine wpAnyH_done (by kernel_rfl) ?_ _
      refine NoPanic.normal ?_
      have HU5 := Lib.hid hU5
      clear hU5 hHeld
      go_wp2_with fail
      go_roundw
      case rel => exact ⟨k' + 1, by omega, by go_num, by rw [HPS.out]; exact HT5.out, (HUP.out.trans (.of_nw Nw.refl.drew)).trans HU5.out⟩
      case measure => simp [intOf]; omega
    · rw [hxi] at g0
      have HC := Lib.hid (ttext_any t _ false x.s.size hm63 _ HTD.out)
      rw [(it_text x hxi hxs _).1, (it_text x hxi hxs _).2] at HC
      have HXI := Lib.hid hxi
      clear hxi
      go_wp2_with fail
      refine wp_region_noPanic ?_
      refine wp_region_held_drew (S := (fun w' => w'.cell? ⟨ib, io + k' * 3, none⟩ = some (.bool true) ∧ w'.cell? ⟨ib, io + k' * 3 + 1, none⟩ = some (.int .u64 x.n) ∧ w'.cell? ⟨ib, io + k' * 3 + 2, none⟩ = some (.string x.s) ∧ Below w.heap.size w w')) (by kernel_rfl) ?_ (fun hHeld => ?_)
      · exact ⟨g0, g1, g2, HBw.out.drew⟩
      refine takeD (i := 0) (v := ?_) 94 rfl rfl ?_ ?_ ?_ (fun _ _ _ h => h) ?_ (by assumption) ?_
      rotate_left
      · kernel_rfl
      · kernel_rfl
      · kernel_rfl
      · refine Or.inl (And.intro ?_ ?_)
        · rfl
        · intro w hSw
          try dsimp only at hSw
          first | (go_simp; done) | (go_simp; with_reducible rfl)
      simp only [List.setIfInBounds_toArray, List.set_cons_zero, List.set_cons_succ]
      refine wpAnyH_ready (rs := [1]) (by kernel_rfl) (by simp) ?_
      refine AllReadyH.cons rfl (fun K hK => ?_) AllReadyH.nil
      go_simp
      go_wp2_with (go_at_call 22; refine HCE.out.mono ?_; rintro e w4 ⟨rfl, rfl⟩)
      refine hK.out _ _ ?_ (fun hHeld2 => ?_)
      · exact hHeld
      have hHeld := hHeld2
      clear hHeld2 hK K
      refine takeD (i := 2) (v := ?_) 96 rfl rfl ?_ ?_ ?_ (fun _ _ _ h => h) ?_ (by assumption) ?_
      rotate_left
      · kernel_rfl
      · kernel_rfl
      · kernel_rfl
      · refine Or.inl (And.intro ?_ ?_)
        · rfl
        · intro w hSw
          try dsimp only at hSw
          first | (go_simp; done) | (go_simp; with_reducible rfl)
      simp only [List.setIfInBounds_toArray, List.set_cons_zero, List.set_cons_succ]
      refine takeD (i := 3) (v := ?_) 97 rfl rfl ?_ ?_ ?_ (fun _ _ _ h => h) ?_ (by assumption) ?_
      rotate_left
      · kernel_rfl
      · kernel_rfl
      · kernel_rfl
      · refine Or.inl (And.intro ?_ ?_)
        · rfl
        · intro w hSw
          try dsimp only at hSw
          first | (go_simp; done) | (go_simp; with_reducible rfl)
      simp only [List.setIfInBounds_toArray, List.set_cons_zero, List.set_cons_succ]
      refine takeD (i := 4) (v := ?_) 98 rfl rfl ?_ ?_ ?_ (fun _ _ _ h => h) ?_ (by assumption) ?_
      rotate_left
      · kernel_rfl
      · kernel_rfl
      · kernel_rfl
      · refine Or.inl (And.intro ?_ ?_)
        · rfl
        · intro w hSw
          try dsimp only at hSw
          first | (go_simp; done) | (go_simp; with_reducible rfl)
      simp only [List.setIfInBounds_toArray, List.set_cons_zero, List.set_cons_succ]
      refine takeD (i := 5) (v := ?_) 99 rfl rfl ?_ ?_ ?_ (fun _ _ _ h => h) ?_ (by assumption) ?_
      rotate_left
      · kernel_rfl
      · kernel_rfl
      · kernel_rfl
      · refine Or.inl (And.intro ?_ ?_)
        · rfl
        · intro w hSw
          try dsimp only at hSw
          first | (go_simp; done) | (go_simp; with_reducible rfl)
      simp only [List.setIfInBounds_toArray, List.set_cons_zero, List.set_cons_succ]
      refine takeD (i := 6) (v := ?_) 100 rfl rfl ?_ ?_ ?_ (fun _ _ _ h => h) ?_ (by assumption) ?_
      rotate_left
      · kernel_rfl
      · kernel_rfl
      · kernel_rfl
      · refine Or.inl (And.intro ?_ ?_)
        · rfl
        · intro w hSw
          try dsimp only at hSw
          first | (go_simp; done) | (go_simp; with_reducible rfl)
      simp only [List.setIfInBounds_toArray, List.set_cons_zero, List.set_cons_succ]
      refine takeD (i := 7) (v := ?_) 101 rfl rfl ?_ ?_ ?_ (fun _ _ _ h => h) ?_ (by assumption) ?_
      rotate_left
      · kernel_rfl
      · kernel_rfl
      · kernel_rfl
      · refine Or.inl (And.intro ?_ ?_)
        · rfl
        · intro w hSw
          try dsimp only at hSw
          first | (go_simp; done) | (go_simp; with_reducible rfl)
      simp only [List.setIfInBounds_toArray, List.set_cons_zero, List.set_cons_succ]
      refine takeD (i := 8) (v := ?_) 102 rfl rfl ?_ ?_ ?_ (fun _ _ _ h => h) ?_ (by assumption) ?_
      rotate_left
      · kernel_rfl
      · kernel_rfl
      · kernel_rfl
      · refine Or.inl (And.intro ?_ ?_)
        · rfl
        · intro w hSw
          try dsimp only at hSw
          first | (go_simp; done) | (go_simp; with_reducible rfl)
      simp only [List.setIfInBounds_toArray, List.set_cons_zero, List.set_cons_succ]
      refine takeD (i := 9) (v := ?_) 103 rfl rfl ?_ ?_ ?_ (fun _ _ _ h => h) ?_ (by assumption) ?_
      rotate_left
      · kernel_rfl
      · kernel_rfl
      · kernel_rfl
      · refine Or.inl (And.intro ?_ ?_)
        · rfl
        · intro w hSw
          try dsimp only at hSw
          first | (go_simp; done) | (go_simp; with_reducible rfl)
      simp only [List.setIfInBounds_toArray, List.set_cons_zero, List.set_cons_succ]
      refine takeD (i := 10) (v := ?_) 104 rfl rfl ?_ ?_ ?_ (fun _ _ _ h => h) ?_ (by assumption) ?_
      rotate_left
      · kernel_rfl
      · kernel_rfl
      · kernel_rfl
      · refine Or.inl (And.intro ?_ ?_)
        · rfl
        · intro w hSw
          try dsimp only at hSw
          first | (go_simp; done) | (go_simp; with_reducible rfl)
      simp only [List.setIfInBounds_toArray, List.set_cons_zero, List.set_cons_succ]
      refine takeD (i := 11) (v := ?_) 105 rfl rfl ?_ ?_ ?_ (fun _ _ _ h => h) ?_ (by assumption) ?_
      rotate_left
      · kernel_rfl
      · kernel_rfl
      · kernel_rfl
      · refine Or.inl (And.intro ?_ ?_)
        · rfl
        · intro w hSw
          try dsimp only at hSw
          first | (go_simp; done) | (go_simp; with_reducible rfl)
      simp only [List.setIfInBounds_toArray, List.set_cons_zero, List.set_cons_succ]
      refine takeD (i := 12) (v := ?_) 106 rfl rfl ?_ ?_ ?_ (fun _ _ _ h => h) ?_ (by assumption) ?_
      rotate_left
      · kernel_rfl
      · kernel_rfl
      · kernel_rfl
      · refine Or.inl (And.intro ?_ ?_)
        · rfl
        · intro w hSw
          try dsimp only at hSw
          first | (go_simp; done) | (go_simp; with_reducible rfl)
      simp only [List.setIfInBounds_toArray, List.set_cons_zero, List.set_cons_succ]
      refine takeD (i := 13) (v := ?_) 107 rfl rfl ?_ ?_ ?_ (fun _ _ _ h => h) ?_ (by assumption) ?_
      rotate_left
      · kernel_rfl
      · kernel_rfl
      · kernel_rfl
      · refine Or.inl (And.intro ?_ ?_)
        · rfl
        · intro w hSw
          try dsimp only at hSw
          first | (go_simp; done) | (go_simp; with_reducible rfl)
      simp only [List.setIfInBounds_toArray, List.set_cons_zero, List.set_cons_succ]
      refine takeD (i := 14) (v := ?_) 108 rfl rfl ?_ ?_ ?_ (fun _ _ _ h => h) ?_ (by assumption) ?_
      rotate_left
      · kernel_rfl
      · kernel_rfl
      · kernel_rfl
      · refine Or.inl (And.intro ?_ ?_)
        · rfl
        · intro w hSw
          try dsimp only at hSw
          first | (go_simp; done) | (go_simp; with_reducible rfl)
      simp only [List.setIfInBounds_toArray, List.set_cons_zero, List.set_cons_succ]
      refine takeD (i := 15) (v := ?_) 109 rfl rfl ?_ ?_ ?_ (fun _ _ _ h => h) ?_ (by assumption) ?_
      rotate_left
      · kernel_rfl
      · kernel_rfl
      · kernel_rfl
      · refine Or.inl (And.intro ?_ ?_)
        · rfl
        · intro w hSw
          try dsimp only at hSw
          first | (go_simp; done) | (go_simp; with_reducible rfl)
      simp only [List.setIfInBounds_toArray, List.set_cons_zero, List.set_cons_succ]
      refine takeD (i := 17) (v := ?_) 111 rfl rfl ?_ ?_ ?_ (fun _ _ _ h => h) ?_ (by assumption) ?_
      rotate_left
      · kernel_rfl
      · kernel_rfl
      · kernel_rfl
      · refine Or.inl (And.intro ?_ ?_)
        · rfl
        · intro w hSw
          try dsimp only at hSw
          first | (go_simp; done) | (go_simp; with_reducible rfl)
      simp only [List.setIfInBounds_toArray, List.set_cons_zero, List.set_cons_succ]
      refine takeD (i := 18) (v := ?_) 112 rfl rfl ?_ ?_ ?_ (fun _ _ _ h => h) ?_ (by assumption) ?_
      rotate_left
      · kernel_rfl
      · kernel_rfl
      · kernel_rfl
      · refine Or.inl (And.intro ?_ ?_)
        · rfl
        · intro w hSw
          try dsimp only at hSw
          first | (go_simp; done) | (go_simp; with_reducible rfl)
      simp only [List.setIfInBounds_toArray, List.set_cons_zero, List.set_cons_succ]
      refine takeD (i := 19) (v := ?_) 113 rfl rfl ?_ ?_ ?_ (fun _ _ _ h => h) ?_ (by assumption) ?_
      rotate_left
      · kernel_rfl
      · kernel_rfl
      · kernel_rfl
      · refine Or.inl (And.intro ?_ ?_)
        · rfl
        · intro w hSw
          try dsimp only at hSw
          first | (go_simp; done) | (go_simp; with_reducible rfl)
      simp only [List.setIfInBounds_toArray, List.set_cons_zero, List.set_cons_succ]
      refine takeD (i := 20) (v := ?_) 114 rfl rfl ?_ ?_ ?_ (fun _ _ _ h => h) ?_ (by assumption) ?_
      rotate_left
      · kernel_rfl
      · kernel_rfl
      · kernel_rfl
      · refine Or.inl (And.intro ?_ ?_)
        · rfl
        · intro w hSw
          try dsimp only at hSw
          first | (go_simp; done) | (go_simp; with_reducible rfl)
      simp only [List.setIfInBounds_toArray, List.set_cons_zero, List.set_cons_succ]
      refine takeD (i := 21) (v := ?_) 115 rfl rfl ?_ ?_ ?_ (fun _ _ _ h => h) ?_ (by assumption) ?_
      rotate_left
      · kernel_rfl
      · kernel_rfl
      · kernel_rfl
      · refine Or.inl (And.intro ?_ ?_)
        · rfl
        · intro w hSw
          try dsimp only at hSw
          first | (go_simp; done) | (go_simp; with_reducible rfl)
      simp only [List.setIfInBounds_toArray, List.set_cons_zero, List.set_cons_succ]
      refine wpAnyH_ready (rs := [16]) (by kernel_rfl) (by simp) ?_
      refine AllReadyH.cons rfl (fun K hK => ?_) AllReadyH.nil
      go_simp
      go_wp2_with ((go_at_call 19; refine HC.out.mono ?_; rintro e w5 ⟨rfl, hT5, hU5⟩; have HT5 := Lib.hid hT5; clear hT5))
      refine hK.out _ _ ?_ (fun hHeld2 => ?_)
      · exact ⟨hU5.cell hHeld.1 (show ib ≠ t by omega), hU5.cell hHeld.2.1 (show ib ≠ t by omega), hU5.cell hHeld.2.2.1 (show ib ≠ t by omega), Up.below HBw.out.drew hU5 HBw.out.size hwt⟩
      have hHeld := hHeld2
      clear hHeld2 hK K
      refine takeD (i := 22) (v := ?_) 116 rfl rfl ?_ ?_ ?_ (fun _ _ _ h => h) ?_ (by assumption) ?_
      rotate_left
      · kernel_rfl
      · kernel_rfl
      · kernel_rfl
      · refine Or.inl (And.intro ?_ ?_)
        · rfl
        · intro w hSw
          try dsimp only at hSw
          first | (go_simp; done) | (go_simp; with_reducible rfl)
      simp only [List.setIfInBounds_toArray, List.set_cons_zero, List.set_cons_succ]
      refine takeD (i := 23) (v := ?_) 117 rfl rfl ?_ ?_ ?_ (fun _ _ _ h => h) ?_ (by assumption) ?_
      rotate_left
      · kernel_rfl
      · kernel_rfl
      · kernel_rfl
      · refine Or.inl (And.intro ?_ ?_)
        · rfl
        · intro w hSw
          try dsimp only at hSw
          first | (go_simp; done) | (go_simp; with_reducible rfl)
      simp only [List.setIfInBounds_toArray, List.set_cons_zero, List.set_cons_succ]
      refine takeD (i := 24) (v := ?_) 118 rfl rfl ?_ ?_ ?_ (fun _ _ _ h => h) ?_ (by assumption) ?_
      rotate_left
      · kernel_rfl
      · kernel_rfl
      · kernel_rfl
      · refine Or.inl (And.intro ?_ ?_)
        · rfl
        · intro w hSw
          try dsimp only at hSw
          first | (go_simp; done) | (go_simp; with_reducible rfl)
      simp only [List.setIfInBounds_toArray, List.set_cons_zero, List.set_cons_succ]
      refine takeD (i := 25) (v := ?_) 119 rfl rfl ?_ ?_ ?_ (fun _ _ _ h => h) ?_ (by assumption) ?_
      rotate_left
      · kernel_rfl
      · kernel_rfl
      · kernel_rfl
      · refine Or.inl (And.intro ?_ ?_)
        · rfl
        · intro w hSw
          try dsimp only at hSw
          first | (go_simp; done) | (go_simp; with_reducible rfl)
      simp only [List.setIfInBounds_toArray, List.set_cons_zero, List.set_cons_succ]
      refine takeD (i := 26) (v := ?_) 120 rfl rfl ?_ ?_ ?_ (fun _ _ _ h => h) ?_ (by assumption) ?_
      rotate_left
      · kernel_rfl
      · kernel_rfl
      · kernel_rfl
      · refine Or.inl (And.intro ?_ ?_)
        · rfl
        · intro w hSw
          try dsimp only at hSw
          first | (go_simp; done) | (go_simp; with_reducible rfl)
      simp only [List.setIfInBounds_toArray, List.set_cons_zero, List.set_cons_succ]
      refine takeD (i := 27) (v := ?_) 121 rfl rfl ?_ ?_ ?_ (fun _ _ _ h => h) ?_ (by assumption) ?_
      rotate_left
      · kernel_rfl
      · kernel_rfl
      · kernel_rfl
      · refine Or.inl (And.intro ?_ ?_)
        · rfl
        · intro w hSw
          try dsimp only at hSw
          first | (go_simp; done) | (go_simp; with_reducible rfl)
      simp only [List.setIfInBounds_toArray, List.set_cons_zero, List.set_cons_succ]
      refine takeD (i := 28) (v := ?_) 122 rfl rfl ?_ ?_ ?_ (fun _ _ _ h => h) ?_ (by assumption) ?_
      rotate_left
      · kernel_rfl
      · kernel_rfl
      · kernel_rfl
      · refine Or.inl (And.intro ?_ ?_)
        · rfl
        · intro w hSw
          try dsimp only at hSw
          first | (go_simp; done) | (go_simp; with_reducible rfl)
      simp only [List.setIfInBounds_toArray, List.set_cons_zero, List.set_cons_succ]
      refine takeD (i := 29) (v := ?_) 123 rfl rfl ?_ ?_ ?_ (fun _ _ _ h => h) ?_ (by assumption) ?_
      rotate_left
      · kernel_rfl
      · kernel_rfl
      · kernel_rfl
      · refine Or.inl (And.intro ?_ ?_)
        · rfl
        · intro w hSw
          try dsimp only at hSw
          first | (go_simp; done) | (go_simp; with_reducible rfl)
      simp only [List.setIfInBounds_toArray, List.set_cons_zero, List.set_cons_succ]
      refine takeD (i := 30) (v := ?_) 124 rfl rfl ?_ ?_ ?_ (fun _ _ _ h => h) ?_ (by assumption) ?_
      rotate_left
      · kernel_rfl
      · kernel_rfl
      · kernel_rfl
      · refine Or.inl (And.intro ?_ ?_)
        · rfl
        · intro w hSw
          try dsimp only at hSw
          first | (go_simp; done) | (go_simp; with_reducible rfl)
      simp only [List.setIfInBounds_toArray, List.set_cons_zero, List.set_cons_succ]
      refine takeD (i := 31) (v := ?_) 125 rfl rfl ?_ ?_ ?_ (fun _ _ _ h => h) ?_ (by assumption) ?_
      rotate_left
      · kernel_rfl
      · kernel_rfl
      · kernel_rfl
      · refine Or.inl (And.intro ?_ ?_)
        · rfl
        · intro w hSw
          try dsimp only at hSw
          first | (go_simp; done) | (go_simp; with_reducible rfl)
      simp only [List.setIfInBounds_toArray, List.set_cons_zero, List.set_cons_succ]
      refine takeD (i := 32) (v := ?_) 126 rfl rfl ?_ ?_ ?_ (fun _ _ _ h => h) ?_ (by assumption) ?_
      rotate_left
      · kernel_rfl
      · kernel_rfl
      · kernel_rfl
      · refine Or.inl (And.intro ?_ ?_)
        · rfl
        · intro w hSw
          try dsimp only at hSw
          first | (go_simp; done) | (go_simp; with_reducible rfl)
      simp only [List.setIfInBounds_toArray, List.set_cons_zero, List.set_cons_succ]
      refine takeD (i := 33) (v := undef) 127 rfl rfl ?_ ?_ ?_ (fun _ _ _ h => h) (Or.inr (And.intro ?_ rfl)) (by assumption) ?_
      · kernel_rfl
      · kernel_rfl
      · kernel_rfl
      · rfl
      simp only [List.setIfInBounds_toArray, List.set_cons_zero, List.set_cons_succ]
      refine takeD (i := 35) (v := undef) 129 rfl rfl ?_ ?_ ?_ (fun _ _ _ h => h) (Or.inr (And.intro ?_ rfl)) (by assumption) ?_
      · kernel_rfl
      · kernel_rfl
      · kernel_rfl
      · rfl
      simp only [List.setIfInBounds_toArray, List.set_cons_zero, List.set_cons_succ]
      refine takeD (i := 36) (v := undef) 130 rfl rfl ?_ ?_ ?_ (fun _ _ _ h => h) (Or.inr (And.intro ?_ rfl)) (by assumption) ?_
      · kernel_rfl
      · kernel_rfl
      · kernel_rfl
      · rfl
      simp only [List.setIfInBounds_toArray, List.set_cons_zero, List.set_cons_succ]
      refine takeD (i := 37) (v := undef) 131 rfl rfl ?_ ?_ ?_ (fun _ _ _ h => h) (Or.inr (And.intro ?_ rfl)) (by assumption) ?_
      · kernel_rfl
      · kernel_rfl
      · kernel_rfl
      · rfl
      simp only [List.setIfInBounds_toArray, List.set_cons_zero, List.set_cons_succ]
      refine takeD (i := 38) (v := undef) 132 rfl rfl ?_ ?_ ?_ (fun _ _ _ h => h) (Or.inr (And.intro ?_ rfl)) (by assumption) ?_
      · kernel_rfl
      · kernel_rfl
      · kernel_rfl
      · rfl
      simp only [List.setIfInBounds_toArray, List.set_cons_zero, List.set_cons_succ]
      refine takeD (i := 39) (v := undef) 133 rfl rfl ?_ ?_ ?_ (fun _ _ _ h => h) (Or.inr (And.intro ?_ rfl)) (by assumption) ?_
      · kernel_rfl
      · kernel_rfl
      · kernel_rfl
      · rfl
      simp only [List.setIfInBounds_toArray, List.set_cons_zero, List.set_cons_succ]
      refine wpAnyH_ready (rs := [34]) (by kernel_rfl) (by simp) ?_
      refine AllReadyH.cons rfl (fun K hK => ?_) AllReadyH.nil
      go_simp
      refine hK.out _ _ ?_ (fun hHeld2 => ?_)
      · exact hHeld
      have hHeld := hHeld2
      clear hHeld2 hK K
      refine takeD (i := 40) (v := undef) 134 rfl rfl ?_ ?_ ?_ (fun _ _ _ h => h) (Or.inr (And.intro ?_ rfl)) (by assumption) ?_
      · kernel_rfl
      · kernel_rfl
      · kernel_rfl
      · rfl
      simp only [List.setIfInBounds_toArray, List.set_cons_zero, List.set_cons_succ]
      refine takeD (i := 41) (v := ?_) 135 rfl rfl ?_ ?_ ?_ (fun _ _ _ h => h) ?_ (by assumption) ?_
      rotate_left
      · kernel_rfl
      · kernel_rfl
      · kernel_rfl
      · refine Or.inl (And.intro ?_ ?_)
        · rfl
        · intro w hSw
          try dsimp only at hSw
          first | (go_simp; done) | (go_simp; with_reducible rfl)
      simp only [List.setIfInBounds_toArray, List.set_cons_zero, List.set_cons_succ]
      refine takeD (i := 42) (v := ?_) 136 rfl rfl ?_ ?_ ?_ (fun _ _ _ h => h) ?_ (by assumption) ?_
      rotate_left
      · kernel_rfl
      · kernel_rfl
      · kernel_rfl
      · refine Or.inl (And.intro ?_ ?_)
        · rfl
        · intro w hSw
          try dsimp only at hSw
          first | (go_simp; done) | (go_simp; with_reducible rfl)
      simp only [List.setIfInBounds_toArray, List.set_cons_zero, List.set_cons_succ]
      refine takeD (i := 43) (v := ?_) 137 rfl rfl ?_ ?_ ?_ (fun _ _ _ h => h) ?_ (by assumption) ?_
      rotate_left
      · kernel_rfl
      · kernel_rfl
      · kernel_rfl
      · refine Or.inl (And.intro ?_ ?_)
        · rfl
        · intro w hSw
          try dsimp only at hSw
          first | (go_simp; done) | (go_simp; with_reducible rfl)
      simp only [List.setIfInBounds_toArray, List.set_cons_zero, List.set_cons_succ]
      refine takeD (i := 44) (v := ?_) 138 rfl rfl ?_ ?_ ?_ (fun _ _ _ h => h) ?_ (by assumption) ?_
      rotate_left
      · kernel_rfl
      · kernel_rfl
      · kernel_rfl
      · refine Or.inl (And.intro ?_ ?_)
        · rfl
        · intro w hSw
          try dsimp only at hSw
          first | (go_simp; done) | (go_simp; with_reducible rfl)
      simp only [List.setIfInBounds_toArray, List.set_cons_zero, List.set_cons_succ]
      refine wpAnyH_ready (rs := [45]) (by kernel_rfl) (by simp) ?_
      refine AllReadyH.cons rfl (fun K hK => ?_) AllReadyH.nil
      go_simp
      go_wp2_with (go_at_call 21; refine (torn_any t ps false _ HT5.out).mono ?_; rintro e w6 ⟨rfl, rfl⟩)
      refine hK.out _ _ ?_ (fun hHeld2 => ?_)
      · exact hHeld
      have hHeld := hHeld2
      clear hHeld2 hK K
      refine takeD (i := 46) (v := ?_) 140 rfl rfl ?_ ?_ ?_ (fun _ _ _ h => h) ?_ (by assumption) ?_
      rotate_left
      · kernel_rfl
      · kernel_rfl
      · kernel_rfl
      · refine Or.inl (And.intro ?_ ?_)
        · rfl
        · intro w hSw
          try dsimp only at hSw
          first | (go_simp; done) | (go_simp; with_reducible rfl)
      simp only [List.setIfInBounds_toArray, List.set_cons_zero, List.set_cons_succ]
      refine wpAnyH_done (by kernel_rfl) ?_ _
      refine NoPanic.normal ?_
      have HU5 := Lib.hid hU5
      clear hU5 hHeld
      go_wp2_with fail
      go_roundw
      case rel => exact ⟨k' + 1, by omega, by go_num, by rw [HPS.out]; exact HT5.out, (HUP.out.trans (.of_nw Nw.refl.drew)).trans HU5.out⟩
      case measure => simp [intOf]; omega
  obtain rfl : k' = k := by omega
  have hdz : itsL (l.drop k') = [] := by rw [List.drop_of_length_le (by rw [HL.out]; exact Nat.le_refl _)]; rfl
  rw [hdz] at hT
  have HBw := Lib.hid (Up.below HBN.out hup HBN.out.size (by omega))
  have HC1 := Lib.hid (end_any t [] false wr hT)
  have he1 : endB [] false = true := rfl
  rw [he1] at HC1
  clear hT hup he1 hdz hlt
  go_wp2_with fail
  refine HC1.out.mono ?_
  rintro e w1 ⟨rfl, rfl⟩
  go_wp2_with fail
  refine (new_any a1 len1 cap1 zs HZL.out (by omega) HZB.out _ ((HIZ.out.below HBw.out).mono HBw.out.size)).mono ?_
  rintro e Wu ⟨u, rfl, hu, hTu, hNu⟩
  have hbw := HBw.out.size
  have hwu : w.heap.size ≤ u := by omega
  have HBU := Lib.hid (HBw.out.trans (hNu.b.mono HBw.out.size))
  have HTU := Lib.hid hTu
  clear hNu hTu
  go_wp2_with fail
  go_loopw [12, 13] (fun ga i wr => ∃ (n : Nat) (rs ag : List Int) (xa : Option Addr) (xc : Nat), n ≤ len1 + 1 ∧ i = .int .i64 n ∧ ga = .slice xa ag.length xc ∧ wr.ownsRow (u + 1) 5 1 (.slice xa ag.length xc) ag.length (ag.map (.int .u8)) ∧ zs = ag ++ rs ∧ TapeAt wr u rs false ∧ Below w.heap.size w wr ∧ ag.length ≤ xc) (fun _ i _ => len1 + 1 - (intOf i).toNat)
  case atStart => exact ⟨0, zs, [], none, 0, Nat.zero_le _, rfl, rfl, ⟨rfl, .inl ⟨rfl, rfl⟩⟩, rfl, HTU.out, HBU.out, Nat.zero_le _⟩
  case round =>
  obtain ⟨n, rs, ag, ga, gc, hn, rfl, rfl, hIg, hzz, hT, hB, hgc⟩ := hrel
  have HTK : Hid (zs.take ag.length = ag) := by show _ = _; rw [hzz, List.take_left]
  have hzl' := congrArg List.length hzz
  rw [HZL.out, List.length_append] at hzl'
  have hagl : ag.length ≤ len1 := by omega
  have hrsl : ag.length + rs.length = len1 := by omega
  clear hzl'
  have HRL := Lib.hid hrsl
  obtain ⟨A, hA⟩ : ∃ A, ag.length = A := ⟨_, rfl⟩
  rw [hA] at HTK hagl hgc HRL hIg ⊢
  have HAG := Lib.hid hA
  have HIR := HIZ
  have HOW := Lib.hid hIg
  have HBX := Lib.hid hB
  have HT := Lib.hid hT
  have HZZ := Lib.hid hzz
  clear hA hIg hB hT hzz hrsl
  by_cases hnl : n ≤ len1
  · have HC := Lib.hid (tnumber_any u rs false wr HT.out)
    have hby := HT.out.by_
    obtain ⟨v0, v1⟩ := numV_range rs hby
    by_cases hs0 : numS rs = 0
    · rw [hs0, st_zero] at HC
      have hnz : numR rs false = 0 := by unfold numR; simp only [Bool.false_eq_true, if_false]; exact numV_zero rs hs0
      rw [hnz] at HC
      clear hby v0 v1 hs0 hnz
      go_wp2_with fail
      refine HC.out.mono ?_
      rintro e WX ⟨rfl, hT5, hU5⟩
      have HT5 := Lib.hid hT5
      have HBX := Lib.hid (Up.below HBX.out hU5 HBX.out.size hwu)
      have HOW := Lib.hid (own_up hU5 HOW.out (fun e => by have := (HOW.out.lt _ e.symm).1; omega))
      have HIG : Hid (Ints WX.heap.size .u8 WX ga ag) := by
        obtain ⟨a', c', e, _, hI⟩ := Ints.of_owns HOW.out
        simp only [Value.slice.injEq] at e
        obtain ⟨rfl, _, rfl⟩ := e
        exact hI
      clear hT5 hU5
      go_wp2_with fail
      refine (torn_any u rs true _ HT5.out).mono ?_
      rintro e w6 ⟨rfl, rfl⟩
      go_wp2_with fail
      have HAL : Hid (ag.length = A) := HAG.out
      have HXI : Hid (Ints WX.heap.size .u8 WX a1 ag) := by
        have := Ints.take A HIR.out; rw [HTK.out] at this; exact (this.below HBX.out).mono HBX.out.size
      have hA1 : (A : Int) ≤ (len1 : Int) := by omega
      have hA2 : A ≤ cap1 := by omega
      have hA3 : (A : Int) ≤ (cap1 : Int) := by omega
      have hA4 : (0 : Int) ≤ (A : Int) := by omega
      have HXD := Lib.hid HBX.out.drew
      refine wp_region_noPanic ?_
      refine wp_region_held_drew (S := (fun w' => Below w.heap.size w w' ∧ (convert 23 9 (.slice a1 A cap1)).run Try.prog w' = .ok (.string (strOfNums ag)) w' ∧ (convert 23 9 (.slice ga A gc)).run Try.prog w' = .ok (.string (strOfNums ag)) w')) (by kernel_rfl) ?_ (fun hHeld => ?_)
      · exact ⟨HXD.out, cv8 cap1 HAL.out (HXI.out.below (Below.refl _ WX).drew), cv8 gc HAL.out (HIG.out.below (Below.refl _ WX).drew)⟩
      refine takeD (i := 0) (v := ?_) 161 rfl rfl ?_ ?_ ?_ (fun _ _ _ h => h) ?_ (by assumption) ?_
      rotate_left
      · kernel_rfl
      · kernel_rfl
      · kernel_rfl
      · refine Or.inl (And.intro ?_ ?_)
        · rfl
        · intro w hSw
          try dsimp only at hSw
          first | (go_simp; done) | (go_simp; with_reducible rfl)
      simp only [List.setIfInBounds_toArray, List.set_cons_zero, List.set_cons_succ]
      refine takeD (i := 1) (v := ?_) 162 rfl rfl ?_ ?_ ?_ (fun _ _ _ h => h) ?_ (by assumption) ?_
      rotate_left
      · kernel_rfl
      · kernel_rfl
      · kernel_rfl
      · refine Or.inl (And.intro ?_ ?_)
        · rfl
        · intro w hSw
          try dsimp only at hSw
          first | (go_simp; done) | (go_simp; with_reducible rfl)
      simp only [List.setIfInBounds_toArray, List.set_cons_zero, List.set_cons_succ]
      refine takeD (i := 2) (v := ?_) 163 rfl rfl ?_ ?_ ?_ (fun _ _ _ h => h) ?_ (by assumption) ?_
      rotate_left
      · kernel_rfl
      · kernel_rfl
      · kernel_rfl
      · refine Or.inl (And.intro ?_ ?_)
        · rfl
        · intro w hSw
          try dsimp only at hSw
          first | (go_simp; done) | (go_simp; with_reducible rfl)
      simp only [List.setIfInBounds_toArray, List.set_cons_zero, List.set_cons_succ]
      refine takeD (i := 3) (v := ?_) 164 rfl rfl ?_ ?_ ?_ (fun _ _ _ h => h) ?_ (by assumption) ?_
      rotate_left
      · kernel_rfl
      · kernel_rfl
      · kernel_rfl
      · refine Or.inl (And.intro ?_ ?_)
        · rfl
        · intro w hSw
          try dsimp only at hSw
          first | (go_simp; done) | (go_simp; with_reducible rfl)
      simp only [List.setIfInBounds_toArray, List.set_cons_zero, List.set_cons_succ]
      refine takeD (i := 4) (v := ?_) 165 rfl rfl ?_ ?_ ?_ (fun _ _ _ h => h) ?_ (by assumption) ?_
      rotate_left
      · kernel_rfl
      · kernel_rfl
      · kernel_rfl
      · refine Or.inl (And.intro ?_ ?_)
        · rfl
        · intro w hSw
          try dsimp only at hSw
          first | (go_simp; done) | (go_simp; with_reducible rfl)
      simp only [List.setIfInBounds_toArray, List.set_cons_zero, List.set_cons_succ]
      refine takeD (i := 5) (v := ?_) 166 rfl rfl ?_ ?_ ?_ (fun _ _ _ h => h) ?_ (by assumption) ?_
      rotate_left
      · kernel_rfl
      · kernel_rfl
      · kernel_rfl
      · refine Or.inl (And.intro ?_ ?_)
        · rfl
        · intro w hSw
          try dsimp only at hSw
          first | (go_simp; done) | (go_simp; with_reducible rfl)
      simp only [List.setIfInBounds_toArray, List.set_cons_zero, List.set_cons_succ]
      refine takeD (i := 6) (v := ?_) 167 rfl rfl ?_ ?_ ?_ (fun _ _ _ h => h) ?_ (by assumption) ?_
      rotate_left
      · kernel_rfl
      · kernel_rfl
      · kernel_rfl
      · refine Or.inl (And.intro ?_ ?_)
        · rfl
        · intro w hSw
          try dsimp only at hSw
          first | (go_simp; done) | (go_simp; with_reducible rfl)
      simp only [List.setIfInBounds_toArray, List.set_cons_zero, List.set_cons_succ]
      refine takeD (i := 7) (v := ?_) 168 rfl rfl ?_ ?_ ?_ (fun _ _ _ h => h) ?_ (by assumption) ?_
      rotate_left
      · kernel_rfl
      · kernel_rfl
      · kernel_rfl
      · refine Or.inl (And.intro ?_ ?_)
        · rfl
        · intro w hSw
          try dsimp only at hSw
          first | (go_simp; done) | (go_simp; with_reducible rfl)
      simp only [List.setIfInBounds_toArray, List.set_cons_zero, List.set_cons_succ]
      refine takeD (i := 8) (v := ?_) 169 rfl rfl ?_ ?_ ?_ (fun _ _ _ h => h) ?_ (by assumption) ?_
      rotate_left
      · kernel_rfl
      · kernel_rfl
      · kernel_rfl
      · refine Or.inl (And.intro ?_ ?_)
        · rfl
        · intro w hSw
          try dsimp only at hSw
          first | (go_simp; done) | (go_simp; with_reducible rfl)
      simp only [List.setIfInBounds_toArray, List.set_cons_zero, List.set_cons_succ]
      refine takeD (i := 9) (v := ?_) 170 rfl rfl ?_ ?_ ?_ (fun _ _ _ h => h) ?_ (by assumption) ?_
      rotate_left
      · kernel_rfl
      · kernel_rfl
      · kernel_rfl
      · refine Or.inl (And.intro ?_ ?_)
        · rfl
        · intro w hSw
          try dsimp only at hSw
          first | (go_simp; done) | (go_simp; with_reducible rfl)
      simp only [List.setIfInBounds_toArray, List.set_cons_zero, List.set_cons_succ]
      refine takeD (i := 10) (v := ?_) 171 rfl rfl ?_ ?_ ?_ (fun _ _ _ h => h) ?_ (by assumption) ?_
      rotate_left
      · kernel_rfl
      · kernel_rfl
      · kernel_rfl
      · refine Or.inl (And.intro ?_ ?_)
        · rfl
        · intro w hSw
          try dsimp only at hSw
          first | (go_simp; done) | (go_simp; with_reducible rfl)
      simp only [List.setIfInBounds_toArray, List.set_cons_zero, List.set_cons_succ]
      refine takeD (i := 11) (v := ?_) 172 rfl rfl ?_ ?_ ?_ (fun _ _ _ h => h) ?_ (by assumption) ?_
      rotate_left
      · kernel_rfl
      · kernel_rfl
      · kernel_rfl
      · refine Or.inl (And.intro ?_ ?_)
        · rfl
        · intro w hSw
          try dsimp only at hSw
          first | (go_simp; done) | (go_simp; with_reducible rfl)
      simp only [List.setIfInBounds_toArray, List.set_cons_zero, List.set_cons_succ]
      refine takeD (i := 12) (v := ?_) 173 rfl rfl ?_ ?_ ?_ (fun _ _ _ h => h) ?_ (by assumption) ?_
      rotate_left
      · kernel_rfl
      · kernel_rfl
      · kernel_rfl
      · refine Or.inl (And.intro ?_ ?_)
        · rfl
        · intro w hSw
          try dsimp only at hSw
          first | (go_simp; done) | (go_simp; with_reducible rfl)
      simp only [List.setIfInBounds_toArray, List.set_cons_zero, List.set_cons_succ]
      refine takeD (i := 13) (v := ?_) 174 rfl rfl ?_ ?_ ?_ (fun _ _ _ h => h) ?_ (by assumption) ?_
      rotate_left
      · kernel_rfl
      · kernel_rfl
      · kernel_rfl
      · refine Or.inl (And.intro ?_ ?_)
        · rfl
        · intro w hSw
          try dsimp only at hSw
          first | (go_simp; done) | (go_simp; with_reducible rfl)
      simp only [List.setIfInBounds_toArray, List.set_cons_zero, List.set_cons_succ]
      refine takeD (i := 14) (v := ?_) 175 rfl rfl ?_ ?_ ?_ (fun _ _ _ h => h) ?_ (by assumption) ?_
      rotate_left
      · kernel_rfl
      · kernel_rfl
      · kernel_rfl
      · refine Or.inl (And.intro ?_ ?_)
        · rfl
        · intro w hSw
          try dsimp only at hSw
          first | (go_simp; done) | (go_simp; with_reducible rfl)
      simp only [List.setIfInBounds_toArray, List.set_cons_zero, List.set_cons_succ]
      refine takeD (i := 15) (v := ?_) 176 rfl rfl ?_ ?_ ?_ (fun _ _ _ h => h) ?_ (by assumption) ?_
      rotate_left
      · kernel_rfl
      · kernel_rfl
      · kernel_rfl
      · refine Or.inl (And.intro ?_ ?_)
        · rfl
        · intro w hSw
          try dsimp only at hSw
          first | (go_simp; done) | (go_simp; with_reducible rfl)
      simp only [List.setIfInBounds_toArray, List.set_cons_zero, List.set_cons_succ]
      refine wpAnyH_ready (rs := [16]) (by kernel_rfl) (by simp) ?_
      refine AllReadyH.cons rfl (fun K hK => ?_) AllReadyH.nil
      go_simp
      go_wp2_with (go_at_call 10; refine (works_any _).mono ?_; rintro e wR ⟨rfl, kx⟩)
      refine hK.out _ _ ?_ (fun hHeld2 => ?_)
      · exact ⟨HXD.out.trans (kx.b.mono HXD.out.size), cv8 cap1 HAL.out ((HXI.out.below (Below.refl _ WX).drew).below kx.b), cv8 gc HAL.out ((HIG.out.below (Below.refl _ WX).drew).below kx.b)⟩
      have hHeld := hHeld2
      clear hHeld2 hK K
      refine takeD (i := 17) (v := ?_) 178 rfl rfl ?_ ?_ ?_ (fun _ _ _ h => h) ?_ (by assumption) ?_
      rotate_left
      · kernel_rfl
      · kernel_rfl
      · kernel_rfl
      · refine Or.inl (And.intro ?_ ?_)
        · rfl
        · intro w hSw
          try dsimp only at hSw
          first | (go_simp; done) | (go_simp; with_reducible rfl)
      simp only [List.setIfInBounds_toArray, List.set_cons_zero, List.set_cons_succ]
      refine takeD (i := 18) (v := ?_) 4 rfl rfl ?_ ?_ ?_ (fun _ _ _ h => h) ?_ (by assumption) ?_
      rotate_left
      · kernel_rfl
      · kernel_rfl
      · kernel_rfl
      · refine Or.inl (And.intro ?_ ?_)
        · rfl
        · intro w hSw
          try dsimp only at hSw
          first | (go_simp; done) | (go_simp; with_reducible rfl)
      simp only [List.setIfInBounds_toArray, List.set_cons_zero, List.set_cons_succ]
      refine wpAnyH_done (by kernel_rfl) ?_ _
      refine NoPanic.normal ?_
      have hlast := hHeld.1
      clear kx hHeld
      go_wp2_with fail
      go_ret
      exact ⟨rfl, hlast⟩
    · have hput := put_again rs hby hs0
      rw [st_go rs _ hs0] at HC
      have hnR : numR rs false = (numV rs).1 := rfl
      rw [hnR] at HC
      obtain ⟨m, hm⟩ : ∃ m : Nat, (numV rs).1 = (m : Int) := ⟨(numV rs).1.toNat, by omega⟩
      rw [hm] at HC v1 hput
      rw [Int.toNat_natCast] at hput
      have hsl := numS_le rs
      have HSN : Hid (ag ++ numL m = (ag ++ numL m)) := rfl
      have HZ2 : Hid (zs = (ag ++ numL m) ++ rs.drop (numS rs)) := by
        show _ = _
        rw [← hput, List.append_assoc, List.take_append_drop]; exact HZZ.out
      have hlm : (ag ++ numL m).length ≤ len1 := by have h := congrArg List.length HZ2.out; rw [HZL.out, List.length_append] at h; omega
      obtain ⟨rs2, hrs2⟩ : ∃ rs2, rs.drop (numS rs) = rs2 := ⟨_, rfl⟩
      rw [hrs2] at HC HZ2
      clear hby v0 hs0 hput hm hnR hsl hrs2
      go_wp2_with fail
      refine HC.out.mono ?_
      rintro e w5 ⟨rfl, hT5, hU5⟩
      have HT5 := Lib.hid hT5
      have hub := hU5.size
      have htl5 := hT5.lt
      have HBX := Lib.hid (Up.below HBX.out hU5 HBX.out.size hwu)
      have HOW := Lib.hid (own_up hU5 HOW.out (fun e => by have := (HOW.out.lt _ e.symm).1; omega))
      have HIG : Hid (Ints w5.heap.size .u8 w5 ga ag) := by
        obtain ⟨a', c', e, _, hI⟩ := Ints.of_owns HOW.out
        simp only [Value.slice.injEq] at e
        obtain ⟨rfl, _, rfl⟩ := e
        exact hI
      clear hT5 hU5
      go_wp2_with fail
      refine (torn_any u rs2 false _ HT5.out).mono ?_
      rintro e w6 ⟨rfl, rfl⟩
      go_wp2_with fail
      refine (number_any ga A gc ag HAG.out (by omega) m v1 _ HIG.out).mono ?_
      intro e w7 h7
      obtain ⟨v7, rfl, ho7, hN7⟩ := h7
      obtain ⟨a7, c7, rfl⟩ := own_slice ho7
      have hc7 := own_cap ho7
      have HO7 := Lib.hid (own_base (base' := u + 1) (by omega) ho7)
      have HT7 := Lib.hid (HT5.out.nw hN7)
      have HB7 := Lib.hid (HBX.out.trans (hN7.b.mono HBX.out.size))
      clear ho7 hN7
      go_wp2_with fail
      go_roundw
      case rel => exact ⟨n + 1, rs2, ag ++ numL m, a7, c7, by omega, by go_num, by rw [List.length_append], HO7.out, HZ2.out, HT7.out, HB7.out, hc7⟩
      case measure => simp [intOf]; omega
  · have WXX := wr
    obtain ⟨WX, hWX⟩ : ∃ WX, wr = WX := ⟨_, rfl⟩
    rw [hWX] at HOW HBX HT ⊢
    clear hWX
    have HIG : Hid (Ints WX.heap.size .u8 WX ga ag) := by
      obtain ⟨a', c', e, _, hI⟩ := Ints.of_owns HOW.out
      simp only [Value.slice.injEq] at e
      obtain ⟨rfl, _, rfl⟩ := e
      exact hI
    go_wp2_with fail
    have HAL : Hid (ag.length = A) := HAG.out
    have HXI : Hid (Ints WX.heap.size .u8 WX a1 ag) := by
      have := Ints.take A HIR.out; rw [HTK.out] at this; exact (this.below HBX.out).mono HBX.out.size
    have hA1 : (A : Int) ≤ (len1 : Int) := by omega
    have hA2 : A ≤ cap1 := by omega
    have hA3 : (A : Int) ≤ (cap1 : Int) := by omega
    have hA4 : (0 : Int) ≤ (A : Int) := by omega
    have HXD := Lib.hid HBX.out.drew
    refine wp_region_noPanic ?_
    refine wp_region_held_drew (S := (fun w' => Below w.heap.size w w' ∧ (convert 23 9 (.slice a1 A cap1)).run Try.prog w' = .ok (.string (strOfNums ag)) w' ∧ (convert 23 9 (.slice ga A gc)).run Try.prog w' = .ok (.string (strOfNums ag)) w')) (by kernel_rfl) ?_ (fun hHeld => ?_)
    · exact ⟨HXD.out, cv8 cap1 HAL.out (HXI.out.below (Below.refl _ WX).drew), cv8 gc HAL.out (HIG.out.below (Below.refl _ WX).drew)⟩
    refine takeD (i := 0) (v := ?_) 161 rfl rfl ?_ ?_ ?_ (fun _ _ _ h => h) ?_ (by assumption) ?_
    rotate_left
    · kernel_rfl
    · kernel_rfl
    · kernel_rfl
    · refine Or.inl (And.intro ?_ ?_)
      · rfl
      · intro w hSw
        try dsimp only at hSw
        first | (go_simp; done) | (go_simp; with_reducible rfl)
    simp only [List.setIfInBounds_toArray, List.set_cons_zero, List.set_cons_succ]
    refine takeD (i := 1) (v := ?_) 162 rfl rfl ?_ ?_ ?_ (fun _ _ _ h => h) ?_ (by assumption) ?_
    rotate_left
    · kernel_rfl
    · kernel_rfl
    · kernel_rfl
    · refine Or.inl (And.intro ?_ ?_)
      · rfl
      · intro w hSw
        try dsimp only at hSw
        first | (go_simp; done) | (go_simp; with_reducible rfl)
    simp only [List.setIfInBounds_toArray, List.set_cons_zero, List.set_cons_succ]
    refine takeD (i := 2) (v := ?_) 163 rfl rfl ?_ ?_ ?_ (fun _ _ _ h => h) ?_ (by assumption) ?_
    rotate_left
    · kernel_rfl
    · kernel_rfl
    · kernel_rfl
    · refine Or.inl (And.intro ?_ ?_)
      · rfl
      · intro w hSw
        try dsimp only at hSw
        first | (go_simp; done) | (go_simp; with_reducible rfl)
    simp only [List.setIfInBounds_toArray, List.set_cons_zero, List.set_cons_succ]
    refine takeD (i := 3) (v := ?_) 164 rfl rfl ?_ ?_ ?_ (fun _ _ _ h => h) ?_ (by assumption) ?_
    rotate_left
    · kernel_rfl
    · kernel_rfl
    · kernel_rfl
    · refine Or.inl (And.intro ?_ ?_)
      · rfl
      · intro w hSw
        try dsimp only at hSw
        first | (go_simp; done) | (go_simp; with_reducible rfl)
    simp only [List.setIfInBounds_toArray, List.set_cons_zero, List.set_cons_succ]
    refine takeD (i := 4) (v := ?_) 165 rfl rfl ?_ ?_ ?_ (fun _ _ _ h => h) ?_ (by assumption) ?_
    rotate_left
    · kernel_rfl
    · kernel_rfl
    · kernel_rfl
    · refine Or.inl (And.intro ?_ ?_)
      · rfl
      · intro w hSw
        try dsimp only at hSw
        first | (go_simp; done) | (go_simp; with_reducible rfl)
    simp only [List.setIfInBounds_toArray, List.set_cons_zero, List.set_cons_succ]
    refine takeD (i := 5) (v := ?_) 166 rfl rfl ?_ ?_ ?_ (fun _ _ _ h => h) ?_ (by assumption) ?_
    rotate_left
    · kernel_rfl
    · kernel_rfl
    · kernel_rfl
    · refine Or.inl (And.intro ?_ ?_)
      · rfl
      · intro w hSw
        try dsimp only at hSw
        first | (go_simp; done) | (go_simp; with_reducible rfl)
    simp only [List.setIfInBounds_toArray, List.set_cons_zero, List.set_cons_succ]
    refine takeD (i := 6) (v := ?_) 167 rfl rfl ?_ ?_ ?_ (fun _ _ _ h => h) ?_ (by assumption) ?_
    rotate_left
    · kernel_rfl
    · kernel_rfl
    · kernel_rfl
    · refine Or.inl (And.intro ?_ ?_)
      · rfl
      · intro w hSw
        try dsimp only at hSw
        first | (go_simp; done) | (go_simp; with_reducible rfl)
    simp only [List.setIfInBounds_toArray, List.set_cons_zero, List.set_cons_succ]
    refine takeD (i := 7) (v := ?_) 168 rfl rfl ?_ ?_ ?_ (fun _ _ _ h => h) ?_ (by assumption) ?_
    rotate_left
    · kernel_rfl
    · kernel_rfl
    · kernel_rfl
    · refine Or.inl (And.intro ?_ ?_)
      · rfl
      · intro w hSw
        try dsimp only at hSw
        first | (go_simp; done) | (go_simp; with_reducible rfl)
    simp only [List.setIfInBounds_toArray, List.set_cons_zero, List.set_cons_succ]
    refine takeD (i := 8) (v := ?_) 169 rfl rfl ?_ ?_ ?_ (fun _ _ _ h => h) ?_ (by assumption) ?_
    rotate_left
    · kernel_rfl
    · kernel_rfl
    · kernel_rfl
    · refine Or.inl (And.intro ?_ ?_)
      · rfl
      · intro w hSw
        try dsimp only at hSw
        first | (go_simp; done) | (go_simp; with_reducible rfl)
    simp only [List.setIfInBounds_toArray, List.set_cons_zero, List.set_cons_succ]
    refine takeD (i := 9) (v := ?_) 170 rfl rfl ?_ ?_ ?_ (fun _ _ _ h => h) ?_ (by assumption) ?_
    rotate_left
    · kernel_rfl
    · kernel_rfl
    · kernel_rfl
    · refine Or.inl (And.intro ?_ ?_)
      · rfl
      · intro w hSw
        try dsimp only at hSw
        first | (go_simp; done) | (go_simp; with_reducible rfl)
    simp only [List.setIfInBounds_toArray, List.set_cons_zero, List.set_cons_succ]
    refine takeD (i := 10) (v := ?_) 171 rfl rfl ?_ ?_ ?_ (fun _ _ _ h => h) ?_ (by assumption) ?_
    rotate_left
    · kernel_rfl
    · kernel_rfl
    · kernel_rfl
    · refine Or.inl (And.intro ?_ ?_)
      · rfl
      · intro w hSw
        try dsimp only at hSw
        first | (go_simp; done) | (go_simp; with_reducible rfl)
    simp only [List.setIfInBounds_toArray, List.set_cons_zero, List.set_cons_succ]
    refine takeD (i := 11) (v := ?_) 172 rfl rfl ?_ ?_ ?_ (fun _ _ _ h => h) ?_ (by assumption) ?_
    rotate_left
    · kernel_rfl
    · kernel_rfl
    · kernel_rfl
    · refine Or.inl (And.intro ?_ ?_)
      · rfl
      · intro w hSw
        try dsimp only at hSw
        first | (go_simp; done) | (go_simp; with_reducible rfl)
    simp only [List.setIfInBounds_toArray, List.set_cons_zero, List.set_cons_succ]
    refine takeD (i := 12) (v := ?_) 173 rfl rfl ?_ ?_ ?_ (fun _ _ _ h => h) ?_ (by assumption) ?_
    rotate_left
    · kernel_rfl
    · kernel_rfl
    · kernel_rfl
    · refine Or.inl (And.intro ?_ ?_)
      · rfl
      · intro w hSw
        try dsimp only at hSw
        first | (go_simp; done) | (go_simp; with_reducible rfl)
    simp only [List.setIfInBounds_toArray, List.set_cons_zero, List.set_cons_succ]
    refine takeD (i := 13) (v := ?_) 174 rfl rfl ?_ ?_ ?_ (fun _ _ _ h => h) ?_ (by assumption) ?_
    rotate_left
    · kernel_rfl
    · kernel_rfl
    · kernel_rfl
    · refine Or.inl (And.intro ?_ ?_)
      · rfl
      · intro w hSw
        try dsimp only at hSw
        first | (go_simp; done) | (go_simp; with_reducible rfl)
    simp only [List.setIfInBounds_toArray, List.set_cons_zero, List.set_cons_succ]
    refine takeD (i := 14) (v := ?_) 175 rfl rfl ?_ ?_ ?_ (fun _ _ _ h => h) ?_ (by assumption) ?_
    rotate_left
    · kernel_rfl
    · kernel_rfl
    · kernel_rfl
    · refine Or.inl (And.intro ?_ ?_)
      · rfl
      · intro w hSw
        try dsimp only at hSw
        first | (go_simp; done) | (go_simp; with_reducible rfl)
    simp only [List.setIfInBounds_toArray, List.set_cons_zero, List.set_cons_succ]
    refine takeD (i := 15) (v := ?_) 176 rfl rfl ?_ ?_ ?_ (fun _ _ _ h => h) ?_ (by assumption) ?_
    rotate_left
    · kernel_rfl
    · kernel_rfl
    · kernel_rfl
    · refine Or.inl (And.intro ?_ ?_)
      · rfl
      · intro w hSw
        try dsimp only at hSw
        first | (go_simp; done) | (go_simp; with_reducible rfl)
    simp only [List.setIfInBounds_toArray, List.set_cons_zero, List.set_cons_succ]
    refine wpAnyH_ready (rs := [16]) (by kernel_rfl) (by simp) ?_
    refine AllReadyH.cons rfl (fun K hK => ?_) AllReadyH.nil
    go_simp
    go_wp2_with (go_at_call 10; refine (works_any _).mono ?_; rintro e wR ⟨rfl, kx⟩)
    refine hK.out _ _ ?_ (fun hHeld2 => ?_)
    · exact ⟨HXD.out.trans (kx.b.mono HXD.out.size), cv8 cap1 HAL.out ((HXI.out.below (Below.refl _ WX).drew).below kx.b), cv8 gc HAL.out ((HIG.out.below (Below.refl _ WX).drew).below kx.b)⟩
    have hHeld := hHeld2
    clear hHeld2 hK K
    refine takeD (i := 17) (v := ?_) 178 rfl rfl ?_ ?_ ?_ (fun _ _ _ h => h) ?_ (by assumption) ?_
    rotate_left
    · kernel_rfl
    · kernel_rfl
    · kernel_rfl
    · refine Or.inl (And.intro ?_ ?_)
      · rfl
      · intro w hSw
        try dsimp only at hSw
        first | (go_simp; done) | (go_simp; with_reducible rfl)
    simp only [List.setIfInBounds_toArray, List.set_cons_zero, List.set_cons_succ]
    refine takeD (i := 18) (v := ?_) 4 rfl rfl ?_ ?_ ?_ (fun _ _ _ h => h) ?_ (by assumption) ?_
    rotate_left
    · kernel_rfl
    · kernel_rfl
    · kernel_rfl
    · refine Or.inl (And.intro ?_ ?_)
      · rfl
      · intro w hSw
        try dsimp only at hSw
        first | (go_simp; done) | (go_simp; with_reducible rfl)
    simp only [List.setIfInBounds_toArray, List.set_cons_zero, List.set_cons_succ]
    refine wpAnyH_done (by kernel_rfl) ?_ _
    refine NoPanic.normal ?_
    have hlast := hHeld.1
    clear kx hHeld
    go_wp2_with fail
    go_ret
    exact ⟨rfl, hlast⟩

end Go.Proofs.Ytciagdechmkgjaa
