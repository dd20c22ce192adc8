/-
  THE WALK OF RequestFields.
-/
import Derived.Deep.DeepCutAuto
import Derived.Outline
import Derived.Test.YtphcdndohdnolaaRqU
import Derived.Test.YtphcdndohdnolaaRqV
namespace Go.Proofs.Ytphcdndohdnolaa
open Go.RowKit Go.Shelf
set_option linter.unusedVariables false

theorem put1_one (r : Rq) (f : Fd) : 1 ≤ (put1 r f).length := by cases f <;> simp [put1, txtB, numL] <;> omega
theorem putL_two {r : Rq} (hk : known r.kind = true) : 2 ≤ (putL r).length := by
  have h1 := put1_one r .path
  have h2 := put1_one r .fd
  rcases known_cases hk with h | h | h | h | h | h | h | h | h | h | h | h | h <;> (simp [putL, h, fdsOf]; omega)
theorem other_kind (k k' : Int) (t : List Int) (h : known k' = false) : getOk (k' :: t) = false := get_unknown (by simp [kindR, byR, byV, h])

set_option maxRecDepth 100000 in
set_option maxHeartbeats 8000000 in
attribute [local go_sem high] eql_rq0 in
theorem walk_fields (r : Rq) (hr : okRq r) (kd : Int) (hkd : isByte kd) (w : World) :
    Calls Try.prog 5 #[rqV r, .int .u8 kd] w fun e w' => e = .returned (.bool true) ∧ Below w.heap.size w w' := by
  obtain ⟨i0, hi, hz0, hz1, hz2⟩ := info_parts8 info_u8
  have R0 := RqAt.new w r
  have hn0 : Nw w (w.alloc (.cells #[.int .u8 r.kind, .int .u8 r.flags, .int .u64 r.fd, .int .u64 r.pos, .int .u64 r.size, .string r.path, .string r.dst, .string r.data] 24)) := Nw.refl.alloc _
  have HF := Lib.hid (fun W => few_any r hr.path hr.dst hr.data W)
  obtain ⟨few, hfew⟩ : ∃ few, decide ((r.path.size : Int) + r.dst.size + r.data.size ≤ 2048) = few := ⟨_, rfl⟩
  rw [hfew] at HF
  have HFW := Lib.hid hfew
  have HR := Lib.hid hr
  unfold rqV at HF ⊢
  clear hfew hr
  go_enter Try.func5, Try.ntmps5
  go_upto_region 1 with fail
  generalize w.alloc (.cells #[.int .u8 r.kind, .int .u8 r.flags, .int .u64 r.fd, .int .u64 r.pos, .int .u64 r.size, .string r.path, .string r.dst, .string r.data] 24) = W1 at R0 hn0 ⊢
  have HR0 := Lib.hid R0
  have HN0 := Lib.hid hn0
  obtain ⟨c0, c1, c2, c3, c4, c5, c6, c7, _⟩ := R0
  clear hn0
  go_wp2_with fail
  refine (HF.out _).mono ?_
  rintro e w2 ⟨rfl, hN2⟩
  have HN2 := Lib.hid (HN0.out.trans hN2)
  have HR2 := Lib.hid (HR0.out.nw hN2)
  clear c0 c1 c2 c3 c4 c5 c6 c7 hN2 HR0
  cases few with
  | false =>
    go_wp2_with fail
    refine (works_any _).mono ?_
    rintro e w3 ⟨rfl, hN3⟩
    go_wp2_with fail
    go_ret
    exact ⟨rfl, (HN2.out.trans hN3).b⟩
  | true =>
  have HS := Lib.hid (few_small HR.out (of_decide_eq_true HFW.out))
  have HPU := Lib.hid (fun W => putq_any r HS.out W)
  have HMY := Lib.hid (fun W => may_any r HS.out W)
  unfold rqV at HPU HMY
  obtain ⟨c0, c1, c2, c3, c4, c5, c6, c7, _⟩ := HR2.out
  go_wp2_with fail
  refine (HPU.out _).mono ?_
  intro e w3 h3
  obtain ⟨a3, c3b, n3, hn3, rfl, hI3, hN3, hown3⟩ := OwnR.app (zs := []) (ys := putQ r) Nw.refl h3
  have hcap3 := own_cap hown3
  simp only [List.nil_append] at hn3 hI3
  clear h3 c0 c1 c2 c3 c4 c5 c6 c7 hown3
  replace HN2 := Lib.hid (HN2.out.trans hN3)
  replace HR2 := Lib.hid (HR2.out.nw hN3)
  have HI3 := Lib.hid hI3
  have HN3L := Lib.hid hn3
  clear hn3
  obtain ⟨c0, c1, c2, c3, c4, c5, c6, c7, _⟩ := HR2.out
  go_wp2_with fail
  refine (HMY.out _).mono ?_
  rintro e w4 ⟨rfl, hN4⟩
  replace HN2 := Lib.hid (HN2.out.trans hN4)
  replace HR2 := Lib.hid (HR2.out.nw hN4)
  replace HI3 := Lib.hid (hN4.ints HI3.out)
  clear c0 c1 c2 c3 c4 c5 c6 c7 hI3 hN3 hN4
  have hn3 := HN3L.out
  clear HN3L
  cases hmm : mayQ r with
  | false =>
    have hps : putQ r = [] := if_neg (by rw [hmm]; decide)
    rw [hps] at hn3
    obtain rfl : n3 = 0 := hn3
    go_wp2_with fail
    refine (works_any _).mono ?_
    rintro e w5 ⟨rfl, hN5⟩
    go_wp2_with fail
    go_ret
    exact ⟨rfl, (HN2.out.trans hN5).b⟩
  | true =>
    have hps : putQ r = putL r := if_pos hmm
    rw [hps] at hn3 HI3
    have hpl := putL_len HS.out
    have hp2 := putL_two (may_known HR.out hmm).1
    have HPB := Lib.hid (putL_byte HR.out)
    have HLB := Lib.hid (fun W => lby_any r HS.out (may_known HR.out hmm).1 W)
    unfold rqV at HLB
    obtain ⟨E, hE⟩ : ∃ E, n3 = E + 1 := ⟨n3 - 1, by rw [hn3]; simp [putL]⟩
    subst hE
    generalize putL r = ps at hn3 HI3 hpl hp2 HPB HLB hps
    rw [← hn3] at hpl hp2
    have HPL := Lib.hid hn3.symm
    have hE2 : E ≤ 200018 := by omega
    have hE1 : 1 ≤ E := by omega
    clear hn3 hpl hps hp2
    obtain ⟨b3, off3, rfl, _, _⟩ := Ints.at HI3.out (j := 0) (by rw [HPL.out]; omega)
    go_upto_region 6 with fail
    have HCVB := Lib.hid (fun (X : World) (h : Nw w4 X) => cv8 (w := X) c3b HPL.out (h.ints HI3.out))
    refine wp_region_noPanic ?_
    refine wp_region_held_drew (S := (fun w' => RqAt w' w.heap.size r ∧ Nw w4 w')) (by kernel_rfl) ?_ (fun hHeld => ?_)
    · exact ⟨HR2.out.nw Nw.refl.drew, Nw.refl.drew⟩
    refine takeD (i := 0) (v := ?_) 24 rfl rfl ?_ ?_ ?_ (fun _ _ _ h => h) ?_ (by assumption) ?_
    rotate_left
    · kernel_rfl
    · kernel_rfl
    · kernel_rfl
    · refine Or.inl (And.intro ?_ ?_)
      · rfl
      · intro w hSw
        obtain ⟨⟨c0, c1, c2, c3, c4, c5, c6, c7, _⟩, eN⟩ := hSw
        first | (go_simp; done) | (go_simp; with_reducible rfl)
    simp only [List.setIfInBounds_toArray, List.set_cons_zero, List.set_cons_succ]
    refine takeD (i := 1) (v := ?_) 25 rfl rfl ?_ ?_ ?_ (fun _ _ _ h => h) ?_ (by assumption) ?_
    rotate_left
    · kernel_rfl
    · kernel_rfl
    · kernel_rfl
    · refine Or.inl (And.intro ?_ ?_)
      · rfl
      · intro w hSw
        obtain ⟨⟨c0, c1, c2, c3, c4, c5, c6, c7, _⟩, eN⟩ := hSw
        have hv1 := HCVB.out w eN
        first | (go_simp; done) | (go_simp; with_reducible rfl)
    simp only [List.setIfInBounds_toArray, List.set_cons_zero, List.set_cons_succ]
    refine takeD (i := 2) (v := ?_) 26 rfl rfl ?_ ?_ ?_ (fun _ _ _ h => h) ?_ (by assumption) ?_
    rotate_left
    · kernel_rfl
    · kernel_rfl
    · kernel_rfl
    · refine Or.inl (And.intro ?_ ?_)
      · rfl
      · intro w hSw
        obtain ⟨⟨c0, c1, c2, c3, c4, c5, c6, c7, _⟩, eN⟩ := hSw
        first | (go_simp; done) | (go_simp; with_reducible rfl)
    simp only [List.setIfInBounds_toArray, List.set_cons_zero, List.set_cons_succ]
    refine wpAnyH_ready (rs := [3]) (by kernel_rfl) (by simp) ?_
    refine AllReadyH.cons rfl (fun K hK => ?_) AllReadyH.nil
    go_simp
    go_wp2_with (go_at_call 17; (with_reducible refine (HLB.out _).mono ?_); intro e y4 h4; obtain ⟨a4, c4, n4, hn4, rfl, hI4, kx, _⟩ := OwnR.app (zs := []) (ys := ps) Nw.refl h4; have HC4 := Lib.hid (fun (X : World) (h : Nw y4 X) => cv8 (w := X) c4 hn4.symm (h.ints hI4)); clear hn4 h4 hI4)
    refine hK.out _ _ ?_ (fun hHeld2 => ?_)
    · exact ⟨hHeld.1.nw kx, hHeld.2.trans kx⟩
    have hHeld := hHeld2
    clear hHeld2 hK K
    refine wpAnyH_ready (rs := [4]) (by kernel_rfl) (by simp) ?_
    refine AllReadyH.cons rfl (fun K hK => ?_) AllReadyH.nil
    have hcv := HC4.out _ Nw.refl
    simp only [List.nil_append] at hcv
    go_simp
    refine hK.out _ _ ?_ (fun hHeld2 => ?_)
    · exact hHeld
    have hHeld := hHeld2
    clear hHeld2 hK K hcv
    refine takeD (i := 5) (v := ?_) 29 rfl rfl ?_ ?_ ?_ (fun _ _ _ h => h) ?_ (by assumption) ?_
    rotate_left
    · kernel_rfl
    · kernel_rfl
    · kernel_rfl
    · refine Or.inl (And.intro ?_ ?_)
      · rfl
      · intro w hSw
        obtain ⟨⟨c0, c1, c2, c3, c4, c5, c6, c7, _⟩, eN⟩ := hSw
        first | (go_simp; done) | (go_simp; with_reducible rfl)
    simp only [List.setIfInBounds_toArray, List.set_cons_zero, List.set_cons_succ]
    refine wpAnyH_done (by kernel_rfl) ?_ _
    refine NoPanic.normal ?_
    have HN6 := Lib.hid (HN2.out.trans hHeld.2)
    have HI6 := Lib.hid (hHeld.2.ints HI3.out)
    clear hHeld
    rcases (show (1 ≤ kd ∧ kd ≤ 13) ∨ (kd < 1) ∨ (1 ≤ kd ∧ 13 < kd) from by omega) with ⟨hk1, hk2⟩ | hk1 | ⟨hk1, hk2⟩
    · skip
      go_wp2_with fail
      refine (works_any _).mono ?_
      rintro e w7 ⟨rfl, hN7⟩
      go_wp2_with fail
      go_ret
      exact ⟨rfl, (HN6.out.trans hN7).b⟩
    · have hun : known kd = false := by unfold known; simp only [Bool.and_eq_false_iff, decide_eq_false_iff_not]; omega
      have HUN := Lib.hid hun
      clear hun
      go_upto_region 10 with fail
      clear hk1
      go_wp2_with (first | (at_builtin; go_loud (refine wpList_append_ints _ rfl (.tmp 38) (.tmp 40) 25 rfl y4.heap.size 5 i0 (.int .u8 0) 1 Try.underlying25 hi hz0 hz1 hz2 rfl _ 1 [.int .u8 kd] rfl (own_one _ .u8 kd _) _ _ _ .u8 (ps.drop 1) _ rfl (by rw [List.length_drop, HPL.out]; omega) (Ints.below (Nw.refl.alloc _).b (HI6.out.drop 1)) (by unfold maxLen; omega) (by omega) (by simp; try omega) ?_); intro vA wA hownA hgrowA; have hbA : Below y4.heap.size y4 wA := ((Below.refl _ y4).alloc (Nat.le_refl _) _).grown hgrowA (by simp) (fun k e => by cases e; exact Nat.le_refl _); clear hgrowA; obtain ⟨aA, cA, rfl⟩ := own_slice hownA) | fail)
      rw [show [Value.int .u8 kd] ++ (ps.drop 1).map (.int .u8) = (kd :: ps.drop 1).map (.int .u8) from rfl] at hownA
      obtain ⟨aB2, cB2, heB, _, hIB⟩ := Ints.of_owns hownA
      simp only [Value.slice.injEq, true_and] at heB
      obtain ⟨rfl, rfl⟩ := heB
      have hkb : ∀ x ∈ kd :: ps.drop 1, isByte x := fun x hx => (List.mem_cons.mp hx).elim (fun h => h ▸ hkd) (fun h => HPB.out x (List.mem_of_mem_drop h))
      refine (get_any aA _ cA (kd :: ps.drop 1) (by rw [List.length_cons, List.length_drop, HPL.out]; omega) (by omega) hkb wA hIB).mono ?_
      rintro e w10 ⟨rfl, hN10⟩
      have hno := get_no (other_kind 0 kd (ps.drop 1) HUN.out)
      rw [hno.2]
      obtain ⟨g, hg⟩ : ∃ g, getQ (kd :: ps.drop 1) = g := ⟨_, rfl⟩
      have HGZ := Lib.hid (show decide (g = zeroRq) = true from decide_eq_true (hg.symm.trans hno.1))
      rw [hg]
      clear hg hno hkb
      unfold rqV
      go_upto_region 12 with fail
      have hQ := RqAt.new w10 g
      have hNA : Nw y4 wA := ⟨hbA⟩
      have HA := Lib.hid (((HN6.out.trans hNA).trans hN10).alloc (.cells #[.int .u8 g.kind, .int .u8 g.flags, .int .u64 g.fd, .int .u64 g.pos, .int .u64 g.size, .string g.path, .string g.dst, .string g.data] 24))
      clear hNA hbA hownA hIB hN10
      generalize w10.alloc (.cells #[.int .u8 g.kind, .int .u8 g.flags, .int .u64 g.fd, .int .u64 g.pos, .int .u64 g.size, .string g.path, .string g.dst, .string g.data] 24) = w11 at hQ HA ⊢
      generalize w10.heap.size = b11 at hQ ⊢
      obtain ⟨q0, q1, q2, q3, q4, q5, q6, q7, _⟩ := hQ
      have hgz := HGZ.out
      go_wp2_with fail
      refine (works_any _).mono ?_
      rintro e w14 ⟨rfl, hN14⟩
      go_wp2_with fail
      go_ret
      exact ⟨rfl, (HA.out.trans hN14).b⟩
    · have hun : known kd = false := by unfold known; simp only [Bool.and_eq_false_iff, decide_eq_false_iff_not]; omega
      have HUN := Lib.hid hun
      clear hun
      go_upto_region 10 with fail
      clear hk1
      go_wp2_with (first | (at_builtin; go_loud (refine wpList_append_ints _ rfl (.tmp 38) (.tmp 40) 25 rfl y4.heap.size 5 i0 (.int .u8 0) 1 Try.underlying25 hi hz0 hz1 hz2 rfl _ 1 [.int .u8 kd] rfl (own_one _ .u8 kd _) _ _ _ .u8 (ps.drop 1) _ rfl (by rw [List.length_drop, HPL.out]; omega) (Ints.below (Nw.refl.alloc _).b (HI6.out.drop 1)) (by unfold maxLen; omega) (by omega) (by simp; try omega) ?_); intro vA wA hownA hgrowA; have hbA : Below y4.heap.size y4 wA := ((Below.refl _ y4).alloc (Nat.le_refl _) _).grown hgrowA (by simp) (fun k e => by cases e; exact Nat.le_refl _); clear hgrowA; obtain ⟨aA, cA, rfl⟩ := own_slice hownA) | fail)
      rw [show [Value.int .u8 kd] ++ (ps.drop 1).map (.int .u8) = (kd :: ps.drop 1).map (.int .u8) from rfl] at hownA
      obtain ⟨aB2, cB2, heB, _, hIB⟩ := Ints.of_owns hownA
      simp only [Value.slice.injEq, true_and] at heB
      obtain ⟨rfl, rfl⟩ := heB
      have hkb : ∀ x ∈ kd :: ps.drop 1, isByte x := fun x hx => (List.mem_cons.mp hx).elim (fun h => h ▸ hkd) (fun h => HPB.out x (List.mem_of_mem_drop h))
      refine (get_any aA _ cA (kd :: ps.drop 1) (by rw [List.length_cons, List.length_drop, HPL.out]; omega) (by omega) hkb wA hIB).mono ?_
      rintro e w10 ⟨rfl, hN10⟩
      have hno := get_no (other_kind 0 kd (ps.drop 1) HUN.out)
      rw [hno.2]
      obtain ⟨g, hg⟩ : ∃ g, getQ (kd :: ps.drop 1) = g := ⟨_, rfl⟩
      have HGZ := Lib.hid (show decide (g = zeroRq) = true from decide_eq_true (hg.symm.trans hno.1))
      rw [hg]
      clear hg hno hkb
      unfold rqV
      go_upto_region 12 with fail
      have hQ := RqAt.new w10 g
      have hNA : Nw y4 wA := ⟨hbA⟩
      have HA := Lib.hid (((HN6.out.trans hNA).trans hN10).alloc (.cells #[.int .u8 g.kind, .int .u8 g.flags, .int .u64 g.fd, .int .u64 g.pos, .int .u64 g.size, .string g.path, .string g.dst, .string g.data] 24))
      clear hNA hbA hownA hIB hN10
      generalize w10.alloc (.cells #[.int .u8 g.kind, .int .u8 g.flags, .int .u64 g.fd, .int .u64 g.pos, .int .u64 g.size, .string g.path, .string g.dst, .string g.data] 24) = w11 at hQ HA ⊢
      generalize w10.heap.size = b11 at hQ ⊢
      obtain ⟨q0, q1, q2, q3, q4, q5, q6, q7, _⟩ := hQ
      have hgz := HGZ.out
      go_wp2_with fail
      refine (works_any _).mono ?_
      rintro e w14 ⟨rfl, hN14⟩
      go_wp2_with fail
      go_ret
      exact ⟨rfl, (HA.out.trans hN14).b⟩

end Go.Proofs.Ytphcdndohdnolaa
