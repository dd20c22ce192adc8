/-
  THE WALK OF RequestPlays.
-/
import Derived.Deep.DeepCutAuto
import Derived.Test.YtphcdndohdnolaaRqS
namespace Go.Proofs.Ytphcdndohdnolaa
open Go.RowKit Go.Shelf
set_option linter.unusedVariables false

set_option maxRecDepth 100000 in
set_option maxHeartbeats 8000000 in
attribute [local go_sem high] eql_rq in
theorem walk_plays (r : Rq) (hr : okRq r) (a : Option Addr) (len cap : Nat) (zs : List Int) (hl : zs.length = len) (hcap : len ≤ cap) (hreach : len ≤ 140737488351232) (hz : ∀ x ∈ zs, isByte x) (w : World) (hI : Ints w.heap.size .u8 w a zs) :
    Calls Try.prog 3 #[rqV r, .slice a len cap] w fun e w' => e = .returned (.bool true) ∧ Below w.heap.size w w' := by
  obtain ⟨i0, hi, hz0, hz1, hz2⟩ := info_parts8 info_u8
  have R0 := RqAt.new w r
  have hn0 : Nw w (w.alloc (.cells #[.int .u8 r.kind, .int .u8 r.flags, .int .u64 r.fd, .int .u64 r.pos, .int .u64 r.size, .string r.path, .string r.dst, .string r.data] 24)) := Nw.refl.alloc _
  have HF := Lib.hid (fun W => few_any r hr.path hr.dst hr.data W)
  obtain ⟨few, hfew⟩ : ∃ few, decide ((r.path.size : Int) + r.dst.size + r.data.size ≤ 2048) = few := ⟨_, rfl⟩
  rw [hfew] at HF
  have HFW := Lib.hid hfew
  have HR := Lib.hid hr
  have HZ := Lib.hid hz
  have HL := Lib.hid hl
  have HIW := Lib.hid (fun W (h : Nw w W) => h.ints hI)
  unfold rqV at HF ⊢
  clear hfew hr hz hl hI
  go_enter Try.func3, Try.ntmps3
  go_upto_region 1 with fail
  generalize w.alloc (.cells #[.int .u8 r.kind, .int .u8 r.flags, .int .u64 r.fd, .int .u64 r.pos, .int .u64 r.size, .string r.path, .string r.dst, .string r.data] 24) = W1 at R0 hn0 ⊢
  have HR0 := Lib.hid R0
  have HN0 := Lib.hid hn0
  obtain ⟨c0, c1, c2, c3, c4, c5, c6, c7, _⟩ := R0
  clear hn0
  go_wp2_with fail
  refine (HF.out _).mono ?_
  rintro e w2 ⟨rfl, hN2⟩
  have HN2 := Lib.hid (HN0.out.trans hN2)
  have HR2 := Lib.hid (HR0.out.nw hN2)
  clear c0 c1 c2 c3 c4 c5 c6 c7 hN2
  cases few with
  | false =>
    go_wp2_with fail
    refine (works_any _).mono ?_
    rintro e w3 ⟨rfl, hN3⟩
    go_wp2_with fail
    go_ret
    exact ⟨rfl, (HN2.out.trans hN3).b⟩
  | true =>
  by_cases hbig : 2048 < len
  · go_wp2_with fail
    refine (works_any _).mono ?_
    rintro e w3 ⟨rfl, hN3⟩
    go_wp2_with fail
    go_ret
    exact ⟨rfl, (HN2.out.trans hN3).b⟩
  have HS := Lib.hid (few_small HR.out (of_decide_eq_true HFW.out))
  have hlen : len ≤ 2048 := by omega
  go_upto_region 4 with (first
    | (at_builtin; refine wpList_append_ints _ rfl (.tmp 19) (.tmp 20) 25 rfl w2.heap.size 5 i0 (.int .u8 0) 1 Try.underlying25 hi hz0 hz1 hz2 rfl _ 0 [] rfl (World.ownsRow_made _ #[] 0 (Nat.le_refl _) (Nat.zero_le _) (by simp)) _ len cap .u8 zs _ rfl HL.out (Ints.below (Nw.refl.alloc _).b (HIW.out _ HN2.out)) (by unfold maxLen; omega) (by omega) (by simp) ?_; intro v3 w3 hown3 hgrow3; have hb3 : Below w2.heap.size w2 w3 := ((Below.refl _ w2).alloc (Nat.le_refl _) _).grown hgrow3 (by simp) (fun k e => by cases e; exact Nat.le_refl _); clear hgrow3; simp only [Nat.zero_add, List.nil_append] at hown3; obtain ⟨a3, c3, rfl⟩ := own_slice hown3)
    | fail)
  have hI3 := Ints.of_owns hown3
  obtain ⟨a3', c3', he, _, hI3⟩ := hI3
  simp only [Value.slice.injEq, true_and] at he
  obtain ⟨rfl, rfl⟩ := he
  have HG := Lib.hid (get_any a3 len c3 zs HL.out (by omega) HZ.out w3 hI3)
  have HI3 := Lib.hid hI3
  have hN3 : Nw w2 w3 := ⟨hb3⟩
  have HN3 := Lib.hid (HN2.out.trans hN3)
  have HR3 := Lib.hid (HR2.out.nw hN3)
  clear hown3 hI3 hN3 hb3
  go_wp2_with fail
  refine HG.out.mono ?_
  rintro e w4 ⟨rfl, hN4⟩
  obtain ⟨g, hg⟩ : ∃ g, getQ zs = g := ⟨_, rfl⟩
  obtain ⟨ge, hge⟩ : ∃ ge, getE zs = ge := ⟨_, rfl⟩
  rw [hg, hge]
  have HGQ := Lib.hid hg
  have HGE := Lib.hid hge
  clear hg hge
  unfold rqV
  go_upto_region 5 with fail
  have HA5 := Lib.hid (hN4.alloc (.cells #[.int .u8 g.kind, .int .u8 g.flags, .int .u64 g.fd, .int .u64 g.pos, .int .u64 g.size, .string g.path, .string g.dst, .string g.data] 24))
  have HQ5 := Lib.hid (RqAt.new w4 g)
  clear hN4
  generalize w4.alloc (.cells #[.int .u8 g.kind, .int .u8 g.flags, .int .u64 g.fd, .int .u64 g.pos, .int .u64 g.size, .string g.path, .string g.dst, .string g.data] 24) = w5 at HA5 HQ5 ⊢
  generalize w4.heap.size = b6 at HQ5 ⊢
  have HRG := Lib.hid (rget_any a len cap zs HL.out hcap (by omega) HZ.out w5 (HIW.out _ (HN3.out.trans HA5.out)))
  go_wp2_with fail
  refine HRG.out.mono ?_
  rintro e w6 ⟨rfl, hN6⟩
  rw [HGQ.out, HGE.out]
  unfold rqV
  go_upto_region 6 with fail
  have HA7 := Lib.hid (hN6.alloc (.cells #[.int .u8 g.kind, .int .u8 g.flags, .int .u64 g.fd, .int .u64 g.pos, .int .u64 g.size, .string g.path, .string g.dst, .string g.data] 24))
  have HQ7 := Lib.hid (RqAt.new w6 g)
  clear hN6
  generalize w6.alloc (.cells #[.int .u8 g.kind, .int .u8 g.flags, .int .u64 g.fd, .int .u64 g.pos, .int .u64 g.size, .string g.path, .string g.dst, .string g.data] 24) = w7 at HA7 HQ7 ⊢
  generalize w6.heap.size = b8 at HQ7 ⊢
  have HMY := Lib.hid (fun W => may_any r HS.out W)
  have HRM := Lib.hid (fun W => rmay_any r W)
  have HPU := Lib.hid (fun W => putq_any r HS.out W)
  have HRP := Lib.hid (fun W => rput_any r HS.out W)
  rw [← may_eq HR.out] at HRM
  generalize mayQ r = mm at HMY HRM
  unfold rqV at HMY HRM HPU HRP
  have HCV3 := Lib.hid (fun (X : World) (h : Nw w7 X) => cv8 (w := X) c3 HL.out ((HA5.out.trans (HA7.out.trans h)).ints HI3.out))
  have HCVB := Lib.hid (fun (X : World) (h : Nw w7 X) => cv8 (w := X) cap HL.out (HIW.out X ((HN3.out.trans HA5.out).trans (HA7.out.trans h))))
  have HR7 := Lib.hid (HR3.out.nw (HA5.out.trans HA7.out))
  have HQ6 := Lib.hid (HQ5.out.nw HA7.out)
  refine wp_region_noPanic ?_
  refine wp_region_held_drew (S := (fun w' => RqAt w' w.heap.size r ∧ RqAt w' b6 g ∧ RqAt w' b8 g ∧ Nw w7 w')) (by kernel_rfl) ?_ (fun hHeld => ?_)
  · exact ⟨HR7.out.nw Nw.refl.drew, HQ6.out.nw Nw.refl.drew, HQ7.out.nw Nw.refl.drew, Nw.refl.drew⟩
  refine takeD (i := 0) (v := ?_) 32 rfl rfl ?_ ?_ ?_ (fun _ _ _ h => h) ?_ (by assumption) ?_
  rotate_left
  · kernel_rfl
  · kernel_rfl
  · kernel_rfl
  · refine Or.inl (And.intro ?_ ?_)
    · rfl
    · intro w hSw
      obtain ⟨⟨c0, c1, c2, c3, c4, c5, c6, c7, _⟩, ⟨q0, q1, q2, q3, q4, q5, q6, q7, _⟩, ⟨p0, p1, p2, p3, p4, p5, p6, p7, _⟩, eN⟩ := hSw
      first | (go_simp; done) | (go_simp; with_reducible rfl)
  simp only [List.setIfInBounds_toArray, List.set_cons_zero, List.set_cons_succ]
  refine takeD (i := 2) (v := ?_) 34 rfl rfl ?_ ?_ ?_ (fun _ _ _ h => h) ?_ (by assumption) ?_
  rotate_left
  · kernel_rfl
  · kernel_rfl
  · kernel_rfl
  · refine Or.inl (And.intro ?_ ?_)
    · rfl
    · intro w hSw
      obtain ⟨⟨c0, c1, c2, c3, c4, c5, c6, c7, _⟩, ⟨q0, q1, q2, q3, q4, q5, q6, q7, _⟩, ⟨p0, p1, p2, p3, p4, p5, p6, p7, _⟩, eN⟩ := hSw
      first | (go_simp; done) | (go_simp; with_reducible rfl)
  simp only [List.setIfInBounds_toArray, List.set_cons_zero, List.set_cons_succ]
  refine wpAnyH_ready (rs := [1]) (by kernel_rfl) (by simp) ?_
  refine AllReadyH.cons rfl (fun K hK => ?_) AllReadyH.nil
  go_simp
  go_wp2_with (go_at_call 13; (with_reducible refine (HMY.out _).mono ?_); rintro e y1 ⟨rfl, kx⟩)
  refine hK.out _ _ ?_ (fun hHeld2 => ?_)
  · exact ⟨hHeld.1.nw kx, hHeld.2.1.nw kx, hHeld.2.2.1.nw kx, hHeld.2.2.2.trans kx⟩
  have hHeld := hHeld2
  clear hHeld2 hK K
  refine wpAnyH_ready (rs := [3]) (by kernel_rfl) (by simp) ?_
  refine AllReadyH.cons rfl (fun K hK => ?_) AllReadyH.nil
  go_simp
  go_wp2_with (go_at_call 14; (with_reducible refine (HRM.out _).mono ?_); rintro e y3 ⟨rfl, kx⟩)
  refine hK.out _ _ ?_ (fun hHeld2 => ?_)
  · exact ⟨hHeld.1.nw kx, hHeld.2.1.nw kx, hHeld.2.2.1.nw kx, hHeld.2.2.2.trans kx⟩
  have hHeld := hHeld2
  clear hHeld2 hK K
  refine takeD (i := 4) (v := ?_) 36 rfl rfl ?_ ?_ ?_ (fun _ _ _ h => h) ?_ (by assumption) ?_
  rotate_left
  · kernel_rfl
  · kernel_rfl
  · kernel_rfl
  · refine Or.inl (And.intro ?_ ?_)
    · rfl
    · intro w hSw
      obtain ⟨⟨c0, c1, c2, c3, c4, c5, c6, c7, _⟩, ⟨q0, q1, q2, q3, q4, q5, q6, q7, _⟩, ⟨p0, p1, p2, p3, p4, p5, p6, p7, _⟩, eN⟩ := hSw
      first | (go_simp; done) | (go_simp; with_reducible rfl)
  simp only [List.setIfInBounds_toArray, List.set_cons_zero, List.set_cons_succ]
  refine takeD (i := 5) (v := ?_) 37 rfl rfl ?_ ?_ ?_ (fun _ _ _ h => h) ?_ (by assumption) ?_
  rotate_left
  · kernel_rfl
  · kernel_rfl
  · kernel_rfl
  · refine Or.inl (And.intro ?_ ?_)
    · rfl
    · intro w hSw
      obtain ⟨⟨c0, c1, c2, c3, c4, c5, c6, c7, _⟩, ⟨q0, q1, q2, q3, q4, q5, q6, q7, _⟩, ⟨p0, p1, p2, p3, p4, p5, p6, p7, _⟩, eN⟩ := hSw
      first | (go_simp; done) | (go_simp; with_reducible rfl)
  simp only [List.setIfInBounds_toArray, List.set_cons_zero, List.set_cons_succ]
  refine takeD (i := 6) (v := ?_) 38 rfl rfl ?_ ?_ ?_ (fun _ _ _ h => h) ?_ (by assumption) ?_
  rotate_left
  · kernel_rfl
  · kernel_rfl
  · kernel_rfl
  · refine Or.inl (And.intro ?_ ?_)
    · rfl
    · intro w hSw
      obtain ⟨⟨c0, c1, c2, c3, c4, c5, c6, c7, _⟩, ⟨q0, q1, q2, q3, q4, q5, q6, q7, _⟩, ⟨p0, p1, p2, p3, p4, p5, p6, p7, _⟩, eN⟩ := hSw
      first | (go_simp; done) | (go_simp; with_reducible rfl)
  simp only [List.setIfInBounds_toArray, List.set_cons_zero, List.set_cons_succ]
  refine takeD (i := 9) (v := ?_) 41 rfl rfl ?_ ?_ ?_ (fun _ _ _ h => h) ?_ (by assumption) ?_
  rotate_left
  · kernel_rfl
  · kernel_rfl
  · kernel_rfl
  · refine Or.inl (And.intro ?_ ?_)
    · rfl
    · intro w hSw
      obtain ⟨⟨c0, c1, c2, c3, c4, c5, c6, c7, _⟩, ⟨q0, q1, q2, q3, q4, q5, q6, q7, _⟩, ⟨p0, p1, p2, p3, p4, p5, p6, p7, _⟩, eN⟩ := hSw
      first | (go_simp; done) | (go_simp; with_reducible rfl)
  simp only [List.setIfInBounds_toArray, List.set_cons_zero, List.set_cons_succ]
  refine wpAnyH_ready (rs := [7]) (by kernel_rfl) (by simp) ?_
  refine AllReadyH.cons rfl (fun K hK => ?_) AllReadyH.nil
  go_simp
  go_wp2_with (go_at_call 15; (with_reducible refine (HPU.out _).mono ?_); intro e y7 h7; obtain ⟨a7, c7, n7, hn7, rfl, hI7, kx, _⟩ := OwnR.app (zs := []) (ys := putQ r) Nw.refl h7; have HC7 := Lib.hid (fun (X : World) (h : Nw y7 X) => cv8 (w := X) c7 hn7.symm (h.ints hI7)); clear hn7 h7 hI7)
  refine hK.out _ _ ?_ (fun hHeld2 => ?_)
  · exact ⟨hHeld.1.nw kx, hHeld.2.1.nw kx, hHeld.2.2.1.nw kx, hHeld.2.2.2.trans kx⟩
  have hHeld := hHeld2
  clear hHeld2 hK K
  refine wpAnyH_ready (rs := [8, 10]) (by kernel_rfl) (by simp) ?_
  refine AllReadyH.cons rfl (fun K hK => ?_) (AllReadyH.cons rfl (fun K hK => ?_) AllReadyH.nil)
  · have hcv := HC7.out _ Nw.refl
    simp only [List.nil_append] at hcv
    go_simp
    refine hK.out _ _ ?_ (fun hHeld2 => ?_)
    · exact hHeld
    have hHeld := hHeld2
    clear hHeld2 hK K hcv
    refine wpAnyH_ready (rs := [10]) (by kernel_rfl) (by simp) ?_
    refine AllReadyH.cons rfl (fun K hK => ?_) AllReadyH.nil
    go_simp
    go_wp2_with (go_at_call 16; (with_reducible refine (HRP.out _).mono ?_); intro e y10 h10; obtain ⟨a10, c10, n10, hn10, rfl, hI10, kx, _⟩ := OwnR.app (zs := []) (ys := putQ r) Nw.refl h10; have HC10 := Lib.hid (fun (X : World) (h : Nw y10 X) => cv8 (w := X) c10 hn10.symm (h.ints hI10)); clear hn10 h10 hI10)
    refine hK.out _ _ ?_ (fun hHeld2 => ?_)
    · exact ⟨hHeld.1.nw kx, hHeld.2.1.nw kx, hHeld.2.2.1.nw kx, hHeld.2.2.2.trans kx⟩
    have hHeld := hHeld2
    clear hHeld2 hK K
    refine wpAnyH_ready (rs := [11]) (by kernel_rfl) (by simp) ?_
    refine AllReadyH.cons rfl (fun K hK => ?_) AllReadyH.nil
    have hcv := HC10.out _ Nw.refl
    simp only [List.nil_append] at hcv
    go_simp
    refine hK.out _ _ ?_ (fun hHeld2 => ?_)
    · exact hHeld
    have hHeld := hHeld2
    clear hHeld2 hK K hcv
    refine takeD (i := 12) (v := ?_) 44 rfl rfl ?_ ?_ ?_ (fun _ _ _ h => h) ?_ (by assumption) ?_
    rotate_left
    · kernel_rfl
    · kernel_rfl
    · kernel_rfl
    · refine Or.inl (And.intro ?_ ?_)
      · rfl
      · intro w hSw
        obtain ⟨⟨c0, c1, c2, c3, c4, c5, c6, c7, _⟩, ⟨q0, q1, q2, q3, q4, q5, q6, q7, _⟩, ⟨p0, p1, p2, p3, p4, p5, p6, p7, _⟩, eN⟩ := hSw
        first | (go_simp; done) | (go_simp; with_reducible rfl)
    simp only [List.setIfInBounds_toArray, List.set_cons_zero, List.set_cons_succ]
    refine takeD (i := 13) (v := ?_) 45 rfl rfl ?_ ?_ ?_ (fun _ _ _ h => h) ?_ (by assumption) ?_
    rotate_left
    · kernel_rfl
    · kernel_rfl
    · kernel_rfl
    · refine Or.inl (And.intro ?_ ?_)
      · rfl
      · intro w hSw
        obtain ⟨⟨c0, c1, c2, c3, c4, c5, c6, c7, _⟩, ⟨q0, q1, q2, q3, q4, q5, q6, q7, _⟩, ⟨p0, p1, p2, p3, p4, p5, p6, p7, _⟩, eN⟩ := hSw
        first | (go_simp; done) | (go_simp; with_reducible rfl)
    simp only [List.setIfInBounds_toArray, List.set_cons_zero, List.set_cons_succ]
    refine takeD (i := 14) (v := ?_) 46 rfl rfl ?_ ?_ ?_ (fun _ _ _ h => h) ?_ (by assumption) ?_
    rotate_left
    · kernel_rfl
    · kernel_rfl
    · kernel_rfl
    · refine Or.inl (And.intro ?_ ?_)
      · rfl
      · intro w hSw
        obtain ⟨⟨c0, c1, c2, c3, c4, c5, c6, c7, _⟩, ⟨q0, q1, q2, q3, q4, q5, q6, q7, _⟩, ⟨p0, p1, p2, p3, p4, p5, p6, p7, _⟩, eN⟩ := hSw
        first | (go_simp; done) | (go_simp; with_reducible rfl)
    simp only [List.setIfInBounds_toArray, List.set_cons_zero, List.set_cons_succ]
    refine takeD (i := 15) (v := ?_) 47 rfl rfl ?_ ?_ ?_ (fun _ _ _ h => h) ?_ (by assumption) ?_
    rotate_left
    · kernel_rfl
    · kernel_rfl
    · kernel_rfl
    · refine Or.inl (And.intro ?_ ?_)
      · rfl
      · intro w hSw
        obtain ⟨⟨c0, c1, c2, c3, c4, c5, c6, c7, _⟩, ⟨q0, q1, q2, q3, q4, q5, q6, q7, _⟩, ⟨p0, p1, p2, p3, p4, p5, p6, p7, _⟩, eN⟩ := hSw
        first | (go_simp; done) | (go_simp; with_reducible rfl)
    simp only [List.setIfInBounds_toArray, List.set_cons_zero, List.set_cons_succ]
    refine takeD (i := 16) (v := ?_) 48 rfl rfl ?_ ?_ ?_ (fun _ _ _ h => h) ?_ (by assumption) ?_
    rotate_left
    · kernel_rfl
    · kernel_rfl
    · kernel_rfl
    · refine Or.inl (And.intro ?_ ?_)
      · rfl
      · intro w hSw
        obtain ⟨⟨c0, c1, c2, c3, c4, c5, c6, c7, _⟩, ⟨q0, q1, q2, q3, q4, q5, q6, q7, _⟩, ⟨p0, p1, p2, p3, p4, p5, p6, p7, _⟩, eN⟩ := hSw
        first | (go_simp; done) | (go_simp; with_reducible rfl)
    simp only [List.setIfInBounds_toArray, List.set_cons_zero, List.set_cons_succ]
    refine takeD (i := 17) (v := ?_) 49 rfl rfl ?_ ?_ ?_ (fun _ _ _ h => h) ?_ (by assumption) ?_
    rotate_left
    · kernel_rfl
    · kernel_rfl
    · kernel_rfl
    · refine Or.inl (And.intro ?_ ?_)
      · rfl
      · intro w hSw
        obtain ⟨⟨c0, c1, c2, c3, c4, c5, c6, c7, _⟩, ⟨q0, q1, q2, q3, q4, q5, q6, q7, _⟩, ⟨p0, p1, p2, p3, p4, p5, p6, p7, _⟩, eN⟩ := hSw
        first | (go_simp; done) | (go_simp; with_reducible rfl)
    simp only [List.setIfInBounds_toArray, List.set_cons_zero, List.set_cons_succ]
    refine takeD (i := 18) (v := ?_) 50 rfl rfl ?_ ?_ ?_ (fun _ _ _ h => h) ?_ (by assumption) ?_
    rotate_left
    · kernel_rfl
    · kernel_rfl
    · kernel_rfl
    · refine Or.inl (And.intro ?_ ?_)
      · rfl
      · intro w hSw
        obtain ⟨⟨c0, c1, c2, c3, c4, c5, c6, c7, _⟩, ⟨q0, q1, q2, q3, q4, q5, q6, q7, _⟩, ⟨p0, p1, p2, p3, p4, p5, p6, p7, _⟩, eN⟩ := hSw
        first | (go_simp; done) | (go_simp; with_reducible rfl)
    simp only [List.setIfInBounds_toArray, List.set_cons_zero, List.set_cons_succ]
    refine takeD (i := 19) (v := ?_) 51 rfl rfl ?_ ?_ ?_ (fun _ _ _ h => h) ?_ (by assumption) ?_
    rotate_left
    · kernel_rfl
    · kernel_rfl
    · kernel_rfl
    · refine Or.inl (And.intro ?_ ?_)
      · rfl
      · intro w hSw
        obtain ⟨⟨c0, c1, c2, c3, c4, c5, c6, c7, _⟩, ⟨q0, q1, q2, q3, q4, q5, q6, q7, _⟩, ⟨p0, p1, p2, p3, p4, p5, p6, p7, _⟩, eN⟩ := hSw
        first | (go_simp; done) | (go_simp; with_reducible rfl)
    simp only [List.setIfInBounds_toArray, List.set_cons_zero, List.set_cons_succ]
    refine takeD (i := 20) (v := ?_) 52 rfl rfl ?_ ?_ ?_ (fun _ _ _ h => h) ?_ (by assumption) ?_
    rotate_left
    · kernel_rfl
    · kernel_rfl
    · kernel_rfl
    · refine Or.inl (And.intro ?_ ?_)
      · rfl
      · intro w hSw
        obtain ⟨⟨c0, c1, c2, c3, c4, c5, c6, c7, _⟩, ⟨q0, q1, q2, q3, q4, q5, q6, q7, _⟩, ⟨p0, p1, p2, p3, p4, p5, p6, p7, _⟩, eN⟩ := hSw
        first | (go_simp; done) | (go_simp; with_reducible rfl)
    simp only [List.setIfInBounds_toArray, List.set_cons_zero, List.set_cons_succ]
    refine takeD (i := 21) (v := ?_) 53 rfl rfl ?_ ?_ ?_ (fun _ _ _ h => h) ?_ (by assumption) ?_
    rotate_left
    · kernel_rfl
    · kernel_rfl
    · kernel_rfl
    · refine Or.inl (And.intro ?_ ?_)
      · rfl
      · intro w hSw
        obtain ⟨⟨c0, c1, c2, c3, c4, c5, c6, c7, _⟩, ⟨q0, q1, q2, q3, q4, q5, q6, q7, _⟩, ⟨p0, p1, p2, p3, p4, p5, p6, p7, _⟩, eN⟩ := hSw
        first | (go_simp; done) | (go_simp; with_reducible rfl)
    simp only [List.setIfInBounds_toArray, List.set_cons_zero, List.set_cons_succ]
    refine takeD (i := 22) (v := ?_) 54 rfl rfl ?_ ?_ ?_ (fun _ _ _ h => h) ?_ (by assumption) ?_
    rotate_left
    · kernel_rfl
    · kernel_rfl
    · kernel_rfl
    · refine Or.inl (And.intro ?_ ?_)
      · rfl
      · intro w hSw
        obtain ⟨⟨c0, c1, c2, c3, c4, c5, c6, c7, _⟩, ⟨q0, q1, q2, q3, q4, q5, q6, q7, _⟩, ⟨p0, p1, p2, p3, p4, p5, p6, p7, _⟩, eN⟩ := hSw
        first | (go_simp; done) | (go_simp; with_reducible rfl)
    simp only [List.setIfInBounds_toArray, List.set_cons_zero, List.set_cons_succ]
    refine takeD (i := 23) (v := ?_) 55 rfl rfl ?_ ?_ ?_ (fun _ _ _ h => h) ?_ (by assumption) ?_
    rotate_left
    · kernel_rfl
    · kernel_rfl
    · kernel_rfl
    · refine Or.inl (And.intro ?_ ?_)
      · rfl
      · intro w hSw
        obtain ⟨⟨c0, c1, c2, c3, c4, c5, c6, c7, _⟩, ⟨q0, q1, q2, q3, q4, q5, q6, q7, _⟩, ⟨p0, p1, p2, p3, p4, p5, p6, p7, _⟩, eN⟩ := hSw
        first | (go_simp; done) | (go_simp; with_reducible rfl)
    simp only [List.setIfInBounds_toArray, List.set_cons_zero, List.set_cons_succ]
    refine takeD (i := 24) (v := ?_) 56 rfl rfl ?_ ?_ ?_ (fun _ _ _ h => h) ?_ (by assumption) ?_
    rotate_left
    · kernel_rfl
    · kernel_rfl
    · kernel_rfl
    · refine Or.inl (And.intro ?_ ?_)
      · rfl
      · intro w hSw
        obtain ⟨⟨c0, c1, c2, c3, c4, c5, c6, c7, _⟩, ⟨q0, q1, q2, q3, q4, q5, q6, q7, _⟩, ⟨p0, p1, p2, p3, p4, p5, p6, p7, _⟩, eN⟩ := hSw
        first | (go_simp; done) | (go_simp; with_reducible rfl)
    simp only [List.setIfInBounds_toArray, List.set_cons_zero, List.set_cons_succ]
    refine takeD (i := 25) (v := ?_) 57 rfl rfl ?_ ?_ ?_ (fun _ _ _ h => h) ?_ (by assumption) ?_
    rotate_left
    · kernel_rfl
    · kernel_rfl
    · kernel_rfl
    · refine Or.inl (And.intro ?_ ?_)
      · rfl
      · intro w hSw
        obtain ⟨⟨c0, c1, c2, c3, c4, c5, c6, c7, _⟩, ⟨q0, q1, q2, q3, q4, q5, q6, q7, _⟩, ⟨p0, p1, p2, p3, p4, p5, p6, p7, _⟩, eN⟩ := hSw
        first | (go_simp; done) | (go_simp; with_reducible rfl)
    simp only [List.setIfInBounds_toArray, List.set_cons_zero, List.set_cons_succ]
    refine takeD (i := 26) (v := ?_) 58 rfl rfl ?_ ?_ ?_ (fun _ _ _ h => h) ?_ (by assumption) ?_
    rotate_left
    · kernel_rfl
    · kernel_rfl
    · kernel_rfl
    · refine Or.inl (And.intro ?_ ?_)
      · rfl
      · intro w hSw
        obtain ⟨⟨c0, c1, c2, c3, c4, c5, c6, c7, _⟩, ⟨q0, q1, q2, q3, q4, q5, q6, q7, _⟩, ⟨p0, p1, p2, p3, p4, p5, p6, p7, _⟩, eN⟩ := hSw
        have hv1 := HCV3.out w eN
        have hv2 := HCVB.out w eN
        first | (go_simp; done) | (go_simp; with_reducible rfl)
    simp only [List.setIfInBounds_toArray, List.set_cons_zero, List.set_cons_succ]
    refine takeD (i := 27) (v := ?_) 59 rfl rfl ?_ ?_ ?_ (fun _ _ _ h => h) ?_ (by assumption) ?_
    rotate_left
    · kernel_rfl
    · kernel_rfl
    · kernel_rfl
    · refine Or.inl (And.intro ?_ ?_)
      · rfl
      · intro w hSw
        obtain ⟨⟨c0, c1, c2, c3, c4, c5, c6, c7, _⟩, ⟨q0, q1, q2, q3, q4, q5, q6, q7, _⟩, ⟨p0, p1, p2, p3, p4, p5, p6, p7, _⟩, eN⟩ := hSw
        first | (go_simp; done) | (go_simp; with_reducible rfl)
    simp only [List.setIfInBounds_toArray, List.set_cons_zero, List.set_cons_succ]
    refine takeD (i := 28) (v := ?_) 60 rfl rfl ?_ ?_ ?_ (fun _ _ _ h => h) ?_ (by assumption) ?_
    rotate_left
    · kernel_rfl
    · kernel_rfl
    · kernel_rfl
    · refine Or.inl (And.intro ?_ ?_)
      · rfl
      · intro w hSw
        obtain ⟨⟨c0, c1, c2, c3, c4, c5, c6, c7, _⟩, ⟨q0, q1, q2, q3, q4, q5, q6, q7, _⟩, ⟨p0, p1, p2, p3, p4, p5, p6, p7, _⟩, eN⟩ := hSw
        have hv1 := HCV3.out w eN
        have hv2 := HCVB.out w eN
        first | (go_simp; done) | (go_simp; with_reducible rfl)
    simp only [List.setIfInBounds_toArray, List.set_cons_zero, List.set_cons_succ]
    refine takeD (i := 29) (v := ?_) 61 rfl rfl ?_ ?_ ?_ (fun _ _ _ h => h) ?_ (by assumption) ?_
    rotate_left
    · kernel_rfl
    · kernel_rfl
    · kernel_rfl
    · refine Or.inl (And.intro ?_ ?_)
      · rfl
      · intro w hSw
        obtain ⟨⟨c0, c1, c2, c3, c4, c5, c6, c7, _⟩, ⟨q0, q1, q2, q3, q4, q5, q6, q7, _⟩, ⟨p0, p1, p2, p3, p4, p5, p6, p7, _⟩, eN⟩ := hSw
        first | (go_simp; done) | (go_simp; with_reducible rfl)
    simp only [List.setIfInBounds_toArray, List.set_cons_zero, List.set_cons_succ]
    refine takeD (i := 30) (v := ?_) 62 rfl rfl ?_ ?_ ?_ (fun _ _ _ h => h) ?_ (by assumption) ?_
    rotate_left
    · kernel_rfl
    · kernel_rfl
    · kernel_rfl
    · refine Or.inl (And.intro ?_ ?_)
      · rfl
      · intro w hSw
        obtain ⟨⟨c0, c1, c2, c3, c4, c5, c6, c7, _⟩, ⟨q0, q1, q2, q3, q4, q5, q6, q7, _⟩, ⟨p0, p1, p2, p3, p4, p5, p6, p7, _⟩, eN⟩ := hSw
        first | (go_simp; done) | (go_simp; with_reducible rfl)
    simp only [List.setIfInBounds_toArray, List.set_cons_zero, List.set_cons_succ]
    refine takeD (i := 31) (v := ?_) 63 rfl rfl ?_ ?_ ?_ (fun _ _ _ h => h) ?_ (by assumption) ?_
    rotate_left
    · kernel_rfl
    · kernel_rfl
    · kernel_rfl
    · refine Or.inl (And.intro ?_ ?_)
      · rfl
      · intro w hSw
        obtain ⟨⟨c0, c1, c2, c3, c4, c5, c6, c7, _⟩, ⟨q0, q1, q2, q3, q4, q5, q6, q7, _⟩, ⟨p0, p1, p2, p3, p4, p5, p6, p7, _⟩, eN⟩ := hSw
        first | (go_simp; done) | (go_simp; with_reducible rfl)
    simp only [List.setIfInBounds_toArray, List.set_cons_zero, List.set_cons_succ]
    refine wpAnyH_ready (rs := [32]) (by kernel_rfl) (by simp) ?_
    refine AllReadyH.cons rfl (fun K hK => ?_) AllReadyH.nil
    go_simp
    go_wp2_with (go_at_call 10; (with_reducible refine (works_any _).mono ?_); rintro e y32 ⟨rfl, kx⟩)
    refine hK.out _ _ ?_ (fun hHeld2 => ?_)
    · exact ⟨hHeld.1.nw kx, hHeld.2.1.nw kx, hHeld.2.2.1.nw kx, hHeld.2.2.2.trans kx⟩
    have hHeld := hHeld2
    clear hHeld2 hK K
    refine takeD (i := 33) (v := ?_) 65 rfl rfl ?_ ?_ ?_ (fun _ _ _ h => h) ?_ (by assumption) ?_
    rotate_left
    · kernel_rfl
    · kernel_rfl
    · kernel_rfl
    · refine Or.inl (And.intro ?_ ?_)
      · rfl
      · intro w hSw
        obtain ⟨⟨c0, c1, c2, c3, c4, c5, c6, c7, _⟩, ⟨q0, q1, q2, q3, q4, q5, q6, q7, _⟩, ⟨p0, p1, p2, p3, p4, p5, p6, p7, _⟩, eN⟩ := hSw
        first | (go_simp; done) | (go_simp; with_reducible rfl)
    simp only [List.setIfInBounds_toArray, List.set_cons_zero, List.set_cons_succ]
    refine takeD (i := 34) (v := ?_) 4 rfl rfl ?_ ?_ ?_ (fun _ _ _ h => h) ?_ (by assumption) ?_
    rotate_left
    · kernel_rfl
    · kernel_rfl
    · kernel_rfl
    · refine Or.inl (And.intro ?_ ?_)
      · rfl
      · intro w hSw
        obtain ⟨⟨c0, c1, c2, c3, c4, c5, c6, c7, _⟩, ⟨q0, q1, q2, q3, q4, q5, q6, q7, _⟩, ⟨p0, p1, p2, p3, p4, p5, p6, p7, _⟩, eN⟩ := hSw
        first | (go_simp; done) | (go_simp; with_reducible rfl)
    simp only [List.setIfInBounds_toArray, List.set_cons_zero, List.set_cons_succ]
    refine wpAnyH_done (by kernel_rfl) ?_ _
    refine NoPanic.normal ?_
    go_wp2_with fail
    go_ret
    exact ⟨rfl, ((HN3.out.trans HA5.out).trans (HA7.out.trans hHeld.2.2.2)).b⟩
  · go_simp
    go_wp2_with (go_at_call 16; (with_reducible refine (HRP.out _).mono ?_); intro e y10 h10; obtain ⟨a10, c10, n10, hn10, rfl, hI10, kx, _⟩ := OwnR.app (zs := []) (ys := putQ r) Nw.refl h10; have HC10 := Lib.hid (fun (X : World) (h : Nw y10 X) => cv8 (w := X) c10 hn10.symm (h.ints hI10)); clear hn10 h10 hI10)
    refine hK.out _ _ ?_ (fun hHeld2 => ?_)
    · exact ⟨hHeld.1.nw kx, hHeld.2.1.nw kx, hHeld.2.2.1.nw kx, hHeld.2.2.2.trans kx⟩
    have hHeld := hHeld2
    clear hHeld2 hK K
    have kx10 := kx
    refine wpAnyH_ready (rs := [8, 11]) (by kernel_rfl) (by simp) ?_
    refine AllReadyH.cons rfl (fun K hK => ?_) (AllReadyH.cons rfl (fun K hK => ?_) AllReadyH.nil)
    · have hcv := HC7.out _ kx10
      simp only [List.nil_append] at hcv
      go_simp
      refine hK.out _ _ ?_ (fun hHeld2 => ?_)
      · exact hHeld
      have hHeld := hHeld2
      clear hHeld2 hK K hcv
      refine wpAnyH_ready (rs := [11]) (by kernel_rfl) (by simp) ?_
      refine AllReadyH.cons rfl (fun K hK => ?_) AllReadyH.nil
      have hcv := HC10.out _ Nw.refl
      simp only [List.nil_append] at hcv
      go_simp
      refine hK.out _ _ ?_ (fun hHeld2 => ?_)
      · exact hHeld
      have hHeld := hHeld2
      clear hHeld2 hK K hcv
      refine takeD (i := 12) (v := ?_) 44 rfl rfl ?_ ?_ ?_ (fun _ _ _ h => h) ?_ (by assumption) ?_
      rotate_left
      · kernel_rfl
      · kernel_rfl
      · kernel_rfl
      · refine Or.inl (And.intro ?_ ?_)
        · rfl
        · intro w hSw
          obtain ⟨⟨c0, c1, c2, c3, c4, c5, c6, c7, _⟩, ⟨q0, q1, q2, q3, q4, q5, q6, q7, _⟩, ⟨p0, p1, p2, p3, p4, p5, p6, p7, _⟩, eN⟩ := hSw
          first | (go_simp; done) | (go_simp; with_reducible rfl)
      simp only [List.setIfInBounds_toArray, List.set_cons_zero, List.set_cons_succ]
      refine takeD (i := 13) (v := ?_) 45 rfl rfl ?_ ?_ ?_ (fun _ _ _ h => h) ?_ (by assumption) ?_
      rotate_left
      · kernel_rfl
      · kernel_rfl
      · kernel_rfl
      · refine Or.inl (And.intro ?_ ?_)
        · rfl
        · intro w hSw
          obtain ⟨⟨c0, c1, c2, c3, c4, c5, c6, c7, _⟩, ⟨q0, q1, q2, q3, q4, q5, q6, q7, _⟩, ⟨p0, p1, p2, p3, p4, p5, p6, p7, _⟩, eN⟩ := hSw
          first | (go_simp; done) | (go_simp; with_reducible rfl)
      simp only [List.setIfInBounds_toArray, List.set_cons_zero, List.set_cons_succ]
      refine takeD (i := 14) (v := ?_) 46 rfl rfl ?_ ?_ ?_ (fun _ _ _ h => h) ?_ (by assumption) ?_
      rotate_left
      · kernel_rfl
      · kernel_rfl
      · kernel_rfl
      · refine Or.inl (And.intro ?_ ?_)
        · rfl
        · intro w hSw
          obtain ⟨⟨c0, c1, c2, c3, c4, c5, c6, c7, _⟩, ⟨q0, q1, q2, q3, q4, q5, q6, q7, _⟩, ⟨p0, p1, p2, p3, p4, p5, p6, p7, _⟩, eN⟩ := hSw
          first | (go_simp; done) | (go_simp; with_reducible rfl)
      simp only [List.setIfInBounds_toArray, List.set_cons_zero, List.set_cons_succ]
      refine takeD (i := 15) (v := ?_) 47 rfl rfl ?_ ?_ ?_ (fun _ _ _ h => h) ?_ (by assumption) ?_
      rotate_left
      · kernel_rfl
      · kernel_rfl
      · kernel_rfl
      · refine Or.inl (And.intro ?_ ?_)
        · rfl
        · intro w hSw
          obtain ⟨⟨c0, c1, c2, c3, c4, c5, c6, c7, _⟩, ⟨q0, q1, q2, q3, q4, q5, q6, q7, _⟩, ⟨p0, p1, p2, p3, p4, p5, p6, p7, _⟩, eN⟩ := hSw
          first | (go_simp; done) | (go_simp; with_reducible rfl)
      simp only [List.setIfInBounds_toArray, List.set_cons_zero, List.set_cons_succ]
      refine takeD (i := 16) (v := ?_) 48 rfl rfl ?_ ?_ ?_ (fun _ _ _ h => h) ?_ (by assumption) ?_
      rotate_left
      · kernel_rfl
      · kernel_rfl
      · kernel_rfl
      · refine Or.inl (And.intro ?_ ?_)
        · rfl
        · intro w hSw
          obtain ⟨⟨c0, c1, c2, c3, c4, c5, c6, c7, _⟩, ⟨q0, q1, q2, q3, q4, q5, q6, q7, _⟩, ⟨p0, p1, p2, p3, p4, p5, p6, p7, _⟩, eN⟩ := hSw
          first | (go_simp; done) | (go_simp; with_reducible rfl)
      simp only [List.setIfInBounds_toArray, List.set_cons_zero, List.set_cons_succ]
      refine takeD (i := 17) (v := ?_) 49 rfl rfl ?_ ?_ ?_ (fun _ _ _ h => h) ?_ (by assumption) ?_
      rotate_left
      · kernel_rfl
      · kernel_rfl
      · kernel_rfl
      · refine Or.inl (And.intro ?_ ?_)
        · rfl
        · intro w hSw
          obtain ⟨⟨c0, c1, c2, c3, c4, c5, c6, c7, _⟩, ⟨q0, q1, q2, q3, q4, q5, q6, q7, _⟩, ⟨p0, p1, p2, p3, p4, p5, p6, p7, _⟩, eN⟩ := hSw
          first | (go_simp; done) | (go_simp; with_reducible rfl)
      simp only [List.setIfInBounds_toArray, List.set_cons_zero, List.set_cons_succ]
      refine takeD (i := 18) (v := ?_) 50 rfl rfl ?_ ?_ ?_ (fun _ _ _ h => h) ?_ (by assumption) ?_
      rotate_left
      · kernel_rfl
      · kernel_rfl
      · kernel_rfl
      · refine Or.inl (And.intro ?_ ?_)
        · rfl
        · intro w hSw
          obtain ⟨⟨c0, c1, c2, c3, c4, c5, c6, c7, _⟩, ⟨q0, q1, q2, q3, q4, q5, q6, q7, _⟩, ⟨p0, p1, p2, p3, p4, p5, p6, p7, _⟩, eN⟩ := hSw
          first | (go_simp; done) | (go_simp; with_reducible rfl)
      simp only [List.setIfInBounds_toArray, List.set_cons_zero, List.set_cons_succ]
      refine takeD (i := 19) (v := ?_) 51 rfl rfl ?_ ?_ ?_ (fun _ _ _ h => h) ?_ (by assumption) ?_
      rotate_left
      · kernel_rfl
      · kernel_rfl
      · kernel_rfl
      · refine Or.inl (And.intro ?_ ?_)
        · rfl
        · intro w hSw
          obtain ⟨⟨c0, c1, c2, c3, c4, c5, c6, c7, _⟩, ⟨q0, q1, q2, q3, q4, q5, q6, q7, _⟩, ⟨p0, p1, p2, p3, p4, p5, p6, p7, _⟩, eN⟩ := hSw
          first | (go_simp; done) | (go_simp; with_reducible rfl)
      simp only [List.setIfInBounds_toArray, List.set_cons_zero, List.set_cons_succ]
      refine takeD (i := 20) (v := ?_) 52 rfl rfl ?_ ?_ ?_ (fun _ _ _ h => h) ?_ (by assumption) ?_
      rotate_left
      · kernel_rfl
      · kernel_rfl
      · kernel_rfl
      · refine Or.inl (And.intro ?_ ?_)
        · rfl
        · intro w hSw
          obtain ⟨⟨c0, c1, c2, c3, c4, c5, c6, c7, _⟩, ⟨q0, q1, q2, q3, q4, q5, q6, q7, _⟩, ⟨p0, p1, p2, p3, p4, p5, p6, p7, _⟩, eN⟩ := hSw
          first | (go_simp; done) | (go_simp; with_reducible rfl)
      simp only [List.setIfInBounds_toArray, List.set_cons_zero, List.set_cons_succ]
      refine takeD (i := 21) (v := ?_) 53 rfl rfl ?_ ?_ ?_ (fun _ _ _ h => h) ?_ (by assumption) ?_
      rotate_left
      · kernel_rfl
      · kernel_rfl
      · kernel_rfl
      · refine Or.inl (And.intro ?_ ?_)
        · rfl
        · intro w hSw
          obtain ⟨⟨c0, c1, c2, c3, c4, c5, c6, c7, _⟩, ⟨q0, q1, q2, q3, q4, q5, q6, q7, _⟩, ⟨p0, p1, p2, p3, p4, p5, p6, p7, _⟩, eN⟩ := hSw
          first | (go_simp; done) | (go_simp; with_reducible rfl)
      simp only [List.setIfInBounds_toArray, List.set_cons_zero, List.set_cons_succ]
      refine takeD (i := 22) (v := ?_) 54 rfl rfl ?_ ?_ ?_ (fun _ _ _ h => h) ?_ (by assumption) ?_
      rotate_left
      · kernel_rfl
      · kernel_rfl
      · kernel_rfl
      · refine Or.inl (And.intro ?_ ?_)
        · rfl
        · intro w hSw
          obtain ⟨⟨c0, c1, c2, c3, c4, c5, c6, c7, _⟩, ⟨q0, q1, q2, q3, q4, q5, q6, q7, _⟩, ⟨p0, p1, p2, p3, p4, p5, p6, p7, _⟩, eN⟩ := hSw
          first | (go_simp; done) | (go_simp; with_reducible rfl)
      simp only [List.setIfInBounds_toArray, List.set_cons_zero, List.set_cons_succ]
      refine takeD (i := 23) (v := ?_) 55 rfl rfl ?_ ?_ ?_ (fun _ _ _ h => h) ?_ (by assumption) ?_
      rotate_left
      · kernel_rfl
      · kernel_rfl
      · kernel_rfl
      · refine Or.inl (And.intro ?_ ?_)
        · rfl
        · intro w hSw
          obtain ⟨⟨c0, c1, c2, c3, c4, c5, c6, c7, _⟩, ⟨q0, q1, q2, q3, q4, q5, q6, q7, _⟩, ⟨p0, p1, p2, p3, p4, p5, p6, p7, _⟩, eN⟩ := hSw
          first | (go_simp; done) | (go_simp; with_reducible rfl)
      simp only [List.setIfInBounds_toArray, List.set_cons_zero, List.set_cons_succ]
      refine takeD (i := 24) (v := ?_) 56 rfl rfl ?_ ?_ ?_ (fun _ _ _ h => h) ?_ (by assumption) ?_
      rotate_left
      · kernel_rfl
      · kernel_rfl
      · kernel_rfl
      · refine Or.inl (And.intro ?_ ?_)
        · rfl
        · intro w hSw
          obtain ⟨⟨c0, c1, c2, c3, c4, c5, c6, c7, _⟩, ⟨q0, q1, q2, q3, q4, q5, q6, q7, _⟩, ⟨p0, p1, p2, p3, p4, p5, p6, p7, _⟩, eN⟩ := hSw
          first | (go_simp; done) | (go_simp; with_reducible rfl)
      simp only [List.setIfInBounds_toArray, List.set_cons_zero, List.set_cons_succ]
      refine takeD (i := 25) (v := ?_) 57 rfl rfl ?_ ?_ ?_ (fun _ _ _ h => h) ?_ (by assumption) ?_
      rotate_left
      · kernel_rfl
      · kernel_rfl
      · kernel_rfl
      · refine Or.inl (And.intro ?_ ?_)
        · rfl
        · intro w hSw
          obtain ⟨⟨c0, c1, c2, c3, c4, c5, c6, c7, _⟩, ⟨q0, q1, q2, q3, q4, q5, q6, q7, _⟩, ⟨p0, p1, p2, p3, p4, p5, p6, p7, _⟩, eN⟩ := hSw
          first | (go_simp; done) | (go_simp; with_reducible rfl)
      simp only [List.setIfInBounds_toArray, List.set_cons_zero, List.set_cons_succ]
      refine takeD (i := 26) (v := ?_) 58 rfl rfl ?_ ?_ ?_ (fun _ _ _ h => h) ?_ (by assumption) ?_
      rotate_left
      · kernel_rfl
      · kernel_rfl
      · kernel_rfl
      · refine Or.inl (And.intro ?_ ?_)
        · rfl
        · intro w hSw
          obtain ⟨⟨c0, c1, c2, c3, c4, c5, c6, c7, _⟩, ⟨q0, q1, q2, q3, q4, q5, q6, q7, _⟩, ⟨p0, p1, p2, p3, p4, p5, p6, p7, _⟩, eN⟩ := hSw
          have hv1 := HCV3.out w eN
          have hv2 := HCVB.out w eN
          first | (go_simp; done) | (go_simp; with_reducible rfl)
      simp only [List.setIfInBounds_toArray, List.set_cons_zero, List.set_cons_succ]
      refine takeD (i := 27) (v := ?_) 59 rfl rfl ?_ ?_ ?_ (fun _ _ _ h => h) ?_ (by assumption) ?_
      rotate_left
      · kernel_rfl
      · kernel_rfl
      · kernel_rfl
      · refine Or.inl (And.intro ?_ ?_)
        · rfl
        · intro w hSw
          obtain ⟨⟨c0, c1, c2, c3, c4, c5, c6, c7, _⟩, ⟨q0, q1, q2, q3, q4, q5, q6, q7, _⟩, ⟨p0, p1, p2, p3, p4, p5, p6, p7, _⟩, eN⟩ := hSw
          first | (go_simp; done) | (go_simp; with_reducible rfl)
      simp only [List.setIfInBounds_toArray, List.set_cons_zero, List.set_cons_succ]
      refine takeD (i := 28) (v := ?_) 60 rfl rfl ?_ ?_ ?_ (fun _ _ _ h => h) ?_ (by assumption) ?_
      rotate_left
      · kernel_rfl
      · kernel_rfl
      · kernel_rfl
      · refine Or.inl (And.intro ?_ ?_)
        · rfl
        · intro w hSw
          obtain ⟨⟨c0, c1, c2, c3, c4, c5, c6, c7, _⟩, ⟨q0, q1, q2, q3, q4, q5, q6, q7, _⟩, ⟨p0, p1, p2, p3, p4, p5, p6, p7, _⟩, eN⟩ := hSw
          have hv1 := HCV3.out w eN
          have hv2 := HCVB.out w eN
          first | (go_simp; done) | (go_simp; with_reducible rfl)
      simp only [List.setIfInBounds_toArray, List.set_cons_zero, List.set_cons_succ]
      refine takeD (i := 29) (v := ?_) 61 rfl rfl ?_ ?_ ?_ (fun _ _ _ h => h) ?_ (by assumption) ?_
      rotate_left
      · kernel_rfl
      · kernel_rfl
      · kernel_rfl
      · refine Or.inl (And.intro ?_ ?_)
        · rfl
        · intro w hSw
          obtain ⟨⟨c0, c1, c2, c3, c4, c5, c6, c7, _⟩, ⟨q0, q1, q2, q3, q4, q5, q6, q7, _⟩, ⟨p0, p1, p2, p3, p4, p5, p6, p7, _⟩, eN⟩ := hSw
          first | (go_simp; done) | (go_simp; with_reducible rfl)
      simp only [List.setIfInBounds_toArray, List.set_cons_zero, List.set_cons_succ]
      refine takeD (i := 30) (v := ?_) 62 rfl rfl ?_ ?_ ?_ (fun _ _ _ h => h) ?_ (by assumption) ?_
      rotate_left
      · kernel_rfl
      · kernel_rfl
      · kernel_rfl
      · refine Or.inl (And.intro ?_ ?_)
        · rfl
        · intro w hSw
          obtain ⟨⟨c0, c1, c2, c3, c4, c5, c6, c7, _⟩, ⟨q0, q1, q2, q3, q4, q5, q6, q7, _⟩, ⟨p0, p1, p2, p3, p4, p5, p6, p7, _⟩, eN⟩ := hSw
          first | (go_simp; done) | (go_simp; with_reducible rfl)
      simp only [List.setIfInBounds_toArray, List.set_cons_zero, List.set_cons_succ]
      refine takeD (i := 31) (v := ?_) 63 rfl rfl ?_ ?_ ?_ (fun _ _ _ h => h) ?_ (by assumption) ?_
      rotate_left
      · kernel_rfl
      · kernel_rfl
      · kernel_rfl
      · refine Or.inl (And.intro ?_ ?_)
        · rfl
        · intro w hSw
          obtain ⟨⟨c0, c1, c2, c3, c4, c5, c6, c7, _⟩, ⟨q0, q1, q2, q3, q4, q5, q6, q7, _⟩, ⟨p0, p1, p2, p3, p4, p5, p6, p7, _⟩, eN⟩ := hSw
          first | (go_simp; done) | (go_simp; with_reducible rfl)
      simp only [List.setIfInBounds_toArray, List.set_cons_zero, List.set_cons_succ]
      refine wpAnyH_ready (rs := [32]) (by kernel_rfl) (by simp) ?_
      refine AllReadyH.cons rfl (fun K hK => ?_) AllReadyH.nil
      go_simp
      go_wp2_with (go_at_call 10; (with_reducible refine (works_any _).mono ?_); rintro e y32 ⟨rfl, kx⟩)
      refine hK.out _ _ ?_ (fun hHeld2 => ?_)
      · exact ⟨hHeld.1.nw kx, hHeld.2.1.nw kx, hHeld.2.2.1.nw kx, hHeld.2.2.2.trans kx⟩
      have hHeld := hHeld2
      clear hHeld2 hK K
      refine takeD (i := 33) (v := ?_) 65 rfl rfl ?_ ?_ ?_ (fun _ _ _ h => h) ?_ (by assumption) ?_
      rotate_left
      · kernel_rfl
      · kernel_rfl
      · kernel_rfl
      · refine Or.inl (And.intro ?_ ?_)
        · rfl
        · intro w hSw
          obtain ⟨⟨c0, c1, c2, c3, c4, c5, c6, c7, _⟩, ⟨q0, q1, q2, q3, q4, q5, q6, q7, _⟩, ⟨p0, p1, p2, p3, p4, p5, p6, p7, _⟩, eN⟩ := hSw
          first | (go_simp; done) | (go_simp; with_reducible rfl)
      simp only [List.setIfInBounds_toArray, List.set_cons_zero, List.set_cons_succ]
      refine takeD (i := 34) (v := ?_) 4 rfl rfl ?_ ?_ ?_ (fun _ _ _ h => h) ?_ (by assumption) ?_
      rotate_left
      · kernel_rfl
      · kernel_rfl
      · kernel_rfl
      · refine Or.inl (And.intro ?_ ?_)
        · rfl
        · intro w hSw
          obtain ⟨⟨c0, c1, c2, c3, c4, c5, c6, c7, _⟩, ⟨q0, q1, q2, q3, q4, q5, q6, q7, _⟩, ⟨p0, p1, p2, p3, p4, p5, p6, p7, _⟩, eN⟩ := hSw
          first | (go_simp; done) | (go_simp; with_reducible rfl)
      simp only [List.setIfInBounds_toArray, List.set_cons_zero, List.set_cons_succ]
      refine wpAnyH_done (by kernel_rfl) ?_ _
      refine NoPanic.normal ?_
      go_wp2_with fail
      go_ret
      exact ⟨rfl, ((HN3.out.trans HA5.out).trans (HA7.out.trans hHeld.2.2.2)).b⟩
    · have hcv := HC10.out _ Nw.refl
      simp only [List.nil_append] at hcv
      go_simp
      refine hK.out _ _ ?_ (fun hHeld2 => ?_)
      · exact hHeld
      have hHeld := hHeld2
      clear hHeld2 hK K hcv
      refine wpAnyH_ready (rs := [8]) (by kernel_rfl) (by simp) ?_
      refine AllReadyH.cons rfl (fun K hK => ?_) AllReadyH.nil
      have hcv := HC7.out _ kx10
      simp only [List.nil_append] at hcv
      go_simp
      refine hK.out _ _ ?_ (fun hHeld2 => ?_)
      · exact hHeld
      have hHeld := hHeld2
      clear hHeld2 hK K hcv
      refine takeD (i := 12) (v := ?_) 44 rfl rfl ?_ ?_ ?_ (fun _ _ _ h => h) ?_ (by assumption) ?_
      rotate_left
      · kernel_rfl
      · kernel_rfl
      · kernel_rfl
      · refine Or.inl (And.intro ?_ ?_)
        · rfl
        · intro w hSw
          obtain ⟨⟨c0, c1, c2, c3, c4, c5, c6, c7, _⟩, ⟨q0, q1, q2, q3, q4, q5, q6, q7, _⟩, ⟨p0, p1, p2, p3, p4, p5, p6, p7, _⟩, eN⟩ := hSw
          first | (go_simp; done) | (go_simp; with_reducible rfl)
      simp only [List.setIfInBounds_toArray, List.set_cons_zero, List.set_cons_succ]
      refine takeD (i := 13) (v := ?_) 45 rfl rfl ?_ ?_ ?_ (fun _ _ _ h => h) ?_ (by assumption) ?_
      rotate_left
      · kernel_rfl
      · kernel_rfl
      · kernel_rfl
      · refine Or.inl (And.intro ?_ ?_)
        · rfl
        · intro w hSw
          obtain ⟨⟨c0, c1, c2, c3, c4, c5, c6, c7, _⟩, ⟨q0, q1, q2, q3, q4, q5, q6, q7, _⟩, ⟨p0, p1, p2, p3, p4, p5, p6, p7, _⟩, eN⟩ := hSw
          first | (go_simp; done) | (go_simp; with_reducible rfl)
      simp only [List.setIfInBounds_toArray, List.set_cons_zero, List.set_cons_succ]
      refine takeD (i := 14) (v := ?_) 46 rfl rfl ?_ ?_ ?_ (fun _ _ _ h => h) ?_ (by assumption) ?_
      rotate_left
      · kernel_rfl
      · kernel_rfl
      · kernel_rfl
      · refine Or.inl (And.intro ?_ ?_)
        · rfl
        · intro w hSw
          obtain ⟨⟨c0, c1, c2, c3, c4, c5, c6, c7, _⟩, ⟨q0, q1, q2, q3, q4, q5, q6, q7, _⟩, ⟨p0, p1, p2, p3, p4, p5, p6, p7, _⟩, eN⟩ := hSw
          first | (go_simp; done) | (go_simp; with_reducible rfl)
      simp only [List.setIfInBounds_toArray, List.set_cons_zero, List.set_cons_succ]
      refine takeD (i := 15) (v := ?_) 47 rfl rfl ?_ ?_ ?_ (fun _ _ _ h => h) ?_ (by assumption) ?_
      rotate_left
      · kernel_rfl
      · kernel_rfl
      · kernel_rfl
      · refine Or.inl (And.intro ?_ ?_)
        · rfl
        · intro w hSw
          obtain ⟨⟨c0, c1, c2, c3, c4, c5, c6, c7, _⟩, ⟨q0, q1, q2, q3, q4, q5, q6, q7, _⟩, ⟨p0, p1, p2, p3, p4, p5, p6, p7, _⟩, eN⟩ := hSw
          first | (go_simp; done) | (go_simp; with_reducible rfl)
      simp only [List.setIfInBounds_toArray, List.set_cons_zero, List.set_cons_succ]
      refine takeD (i := 16) (v := ?_) 48 rfl rfl ?_ ?_ ?_ (fun _ _ _ h => h) ?_ (by assumption) ?_
      rotate_left
      · kernel_rfl
      · kernel_rfl
      · kernel_rfl
      · refine Or.inl (And.intro ?_ ?_)
        · rfl
        · intro w hSw
          obtain ⟨⟨c0, c1, c2, c3, c4, c5, c6, c7, _⟩, ⟨q0, q1, q2, q3, q4, q5, q6, q7, _⟩, ⟨p0, p1, p2, p3, p4, p5, p6, p7, _⟩, eN⟩ := hSw
          first | (go_simp; done) | (go_simp; with_reducible rfl)
      simp only [List.setIfInBounds_toArray, List.set_cons_zero, List.set_cons_succ]
      refine takeD (i := 17) (v := ?_) 49 rfl rfl ?_ ?_ ?_ (fun _ _ _ h => h) ?_ (by assumption) ?_
      rotate_left
      · kernel_rfl
      · kernel_rfl
      · kernel_rfl
      · refine Or.inl (And.intro ?_ ?_)
        · rfl
        · intro w hSw
          obtain ⟨⟨c0, c1, c2, c3, c4, c5, c6, c7, _⟩, ⟨q0, q1, q2, q3, q4, q5, q6, q7, _⟩, ⟨p0, p1, p2, p3, p4, p5, p6, p7, _⟩, eN⟩ := hSw
          first | (go_simp; done) | (go_simp; with_reducible rfl)
      simp only [List.setIfInBounds_toArray, List.set_cons_zero, List.set_cons_succ]
      refine takeD (i := 18) (v := ?_) 50 rfl rfl ?_ ?_ ?_ (fun _ _ _ h => h) ?_ (by assumption) ?_
      rotate_left
      · kernel_rfl
      · kernel_rfl
      · kernel_rfl
      · refine Or.inl (And.intro ?_ ?_)
        · rfl
        · intro w hSw
          obtain ⟨⟨c0, c1, c2, c3, c4, c5, c6, c7, _⟩, ⟨q0, q1, q2, q3, q4, q5, q6, q7, _⟩, ⟨p0, p1, p2, p3, p4, p5, p6, p7, _⟩, eN⟩ := hSw
          first | (go_simp; done) | (go_simp; with_reducible rfl)
      simp only [List.setIfInBounds_toArray, List.set_cons_zero, List.set_cons_succ]
      refine takeD (i := 19) (v := ?_) 51 rfl rfl ?_ ?_ ?_ (fun _ _ _ h => h) ?_ (by assumption) ?_
      rotate_left
      · kernel_rfl
      · kernel_rfl
      · kernel_rfl
      · refine Or.inl (And.intro ?_ ?_)
        · rfl
        · intro w hSw
          obtain ⟨⟨c0, c1, c2, c3, c4, c5, c6, c7, _⟩, ⟨q0, q1, q2, q3, q4, q5, q6, q7, _⟩, ⟨p0, p1, p2, p3, p4, p5, p6, p7, _⟩, eN⟩ := hSw
          first | (go_simp; done) | (go_simp; with_reducible rfl)
      simp only [List.setIfInBounds_toArray, List.set_cons_zero, List.set_cons_succ]
      refine takeD (i := 20) (v := ?_) 52 rfl rfl ?_ ?_ ?_ (fun _ _ _ h => h) ?_ (by assumption) ?_
      rotate_left
      · kernel_rfl
      · kernel_rfl
      · kernel_rfl
      · refine Or.inl (And.intro ?_ ?_)
        · rfl
        · intro w hSw
          obtain ⟨⟨c0, c1, c2, c3, c4, c5, c6, c7, _⟩, ⟨q0, q1, q2, q3, q4, q5, q6, q7, _⟩, ⟨p0, p1, p2, p3, p4, p5, p6, p7, _⟩, eN⟩ := hSw
          first | (go_simp; done) | (go_simp; with_reducible rfl)
      simp only [List.setIfInBounds_toArray, List.set_cons_zero, List.set_cons_succ]
      refine takeD (i := 21) (v := ?_) 53 rfl rfl ?_ ?_ ?_ (fun _ _ _ h => h) ?_ (by assumption) ?_
      rotate_left
      · kernel_rfl
      · kernel_rfl
      · kernel_rfl
      · refine Or.inl (And.intro ?_ ?_)
        · rfl
        · intro w hSw
          obtain ⟨⟨c0, c1, c2, c3, c4, c5, c6, c7, _⟩, ⟨q0, q1, q2, q3, q4, q5, q6, q7, _⟩, ⟨p0, p1, p2, p3, p4, p5, p6, p7, _⟩, eN⟩ := hSw
          first | (go_simp; done) | (go_simp; with_reducible rfl)
      simp only [List.setIfInBounds_toArray, List.set_cons_zero, List.set_cons_succ]
      refine takeD (i := 22) (v := ?_) 54 rfl rfl ?_ ?_ ?_ (fun _ _ _ h => h) ?_ (by assumption) ?_
      rotate_left
      · kernel_rfl
      · kernel_rfl
      · kernel_rfl
      · refine Or.inl (And.intro ?_ ?_)
        · rfl
        · intro w hSw
          obtain ⟨⟨c0, c1, c2, c3, c4, c5, c6, c7, _⟩, ⟨q0, q1, q2, q3, q4, q5, q6, q7, _⟩, ⟨p0, p1, p2, p3, p4, p5, p6, p7, _⟩, eN⟩ := hSw
          first | (go_simp; done) | (go_simp; with_reducible rfl)
      simp only [List.setIfInBounds_toArray, List.set_cons_zero, List.set_cons_succ]
      refine takeD (i := 23) (v := ?_) 55 rfl rfl ?_ ?_ ?_ (fun _ _ _ h => h) ?_ (by assumption) ?_
      rotate_left
      · kernel_rfl
      · kernel_rfl
      · kernel_rfl
      · refine Or.inl (And.intro ?_ ?_)
        · rfl
        · intro w hSw
          obtain ⟨⟨c0, c1, c2, c3, c4, c5, c6, c7, _⟩, ⟨q0, q1, q2, q3, q4, q5, q6, q7, _⟩, ⟨p0, p1, p2, p3, p4, p5, p6, p7, _⟩, eN⟩ := hSw
          first | (go_simp; done) | (go_simp; with_reducible rfl)
      simp only [List.setIfInBounds_toArray, List.set_cons_zero, List.set_cons_succ]
      refine takeD (i := 24) (v := ?_) 56 rfl rfl ?_ ?_ ?_ (fun _ _ _ h => h) ?_ (by assumption) ?_
      rotate_left
      · kernel_rfl
      · kernel_rfl
      · kernel_rfl
      · refine Or.inl (And.intro ?_ ?_)
        · rfl
        · intro w hSw
          obtain ⟨⟨c0, c1, c2, c3, c4, c5, c6, c7, _⟩, ⟨q0, q1, q2, q3, q4, q5, q6, q7, _⟩, ⟨p0, p1, p2, p3, p4, p5, p6, p7, _⟩, eN⟩ := hSw
          first | (go_simp; done) | (go_simp; with_reducible rfl)
      simp only [List.setIfInBounds_toArray, List.set_cons_zero, List.set_cons_succ]
      refine takeD (i := 25) (v := ?_) 57 rfl rfl ?_ ?_ ?_ (fun _ _ _ h => h) ?_ (by assumption) ?_
      rotate_left
      · kernel_rfl
      · kernel_rfl
      · kernel_rfl
      · refine Or.inl (And.intro ?_ ?_)
        · rfl
        · intro w hSw
          obtain ⟨⟨c0, c1, c2, c3, c4, c5, c6, c7, _⟩, ⟨q0, q1, q2, q3, q4, q5, q6, q7, _⟩, ⟨p0, p1, p2, p3, p4, p5, p6, p7, _⟩, eN⟩ := hSw
          first | (go_simp; done) | (go_simp; with_reducible rfl)
      simp only [List.setIfInBounds_toArray, List.set_cons_zero, List.set_cons_succ]
      refine takeD (i := 26) (v := ?_) 58 rfl rfl ?_ ?_ ?_ (fun _ _ _ h => h) ?_ (by assumption) ?_
      rotate_left
      · kernel_rfl
      · kernel_rfl
      · kernel_rfl
      · refine Or.inl (And.intro ?_ ?_)
        · rfl
        · intro w hSw
          obtain ⟨⟨c0, c1, c2, c3, c4, c5, c6, c7, _⟩, ⟨q0, q1, q2, q3, q4, q5, q6, q7, _⟩, ⟨p0, p1, p2, p3, p4, p5, p6, p7, _⟩, eN⟩ := hSw
          have hv1 := HCV3.out w eN
          have hv2 := HCVB.out w eN
          first | (go_simp; done) | (go_simp; with_reducible rfl)
      simp only [List.setIfInBounds_toArray, List.set_cons_zero, List.set_cons_succ]
      refine takeD (i := 27) (v := ?_) 59 rfl rfl ?_ ?_ ?_ (fun _ _ _ h => h) ?_ (by assumption) ?_
      rotate_left
      · kernel_rfl
      · kernel_rfl
      · kernel_rfl
      · refine Or.inl (And.intro ?_ ?_)
        · rfl
        · intro w hSw
          obtain ⟨⟨c0, c1, c2, c3, c4, c5, c6, c7, _⟩, ⟨q0, q1, q2, q3, q4, q5, q6, q7, _⟩, ⟨p0, p1, p2, p3, p4, p5, p6, p7, _⟩, eN⟩ := hSw
          first | (go_simp; done) | (go_simp; with_reducible rfl)
      simp only [List.setIfInBounds_toArray, List.set_cons_zero, List.set_cons_succ]
      refine takeD (i := 28) (v := ?_) 60 rfl rfl ?_ ?_ ?_ (fun _ _ _ h => h) ?_ (by assumption) ?_
      rotate_left
      · kernel_rfl
      · kernel_rfl
      · kernel_rfl
      · refine Or.inl (And.intro ?_ ?_)
        · rfl
        · intro w hSw
          obtain ⟨⟨c0, c1, c2, c3, c4, c5, c6, c7, _⟩, ⟨q0, q1, q2, q3, q4, q5, q6, q7, _⟩, ⟨p0, p1, p2, p3, p4, p5, p6, p7, _⟩, eN⟩ := hSw
          have hv1 := HCV3.out w eN
          have hv2 := HCVB.out w eN
          first | (go_simp; done) | (go_simp; with_reducible rfl)
      simp only [List.setIfInBounds_toArray, List.set_cons_zero, List.set_cons_succ]
      refine takeD (i := 29) (v := ?_) 61 rfl rfl ?_ ?_ ?_ (fun _ _ _ h => h) ?_ (by assumption) ?_
      rotate_left
      · kernel_rfl
      · kernel_rfl
      · kernel_rfl
      · refine Or.inl (And.intro ?_ ?_)
        · rfl
        · intro w hSw
          obtain ⟨⟨c0, c1, c2, c3, c4, c5, c6, c7, _⟩, ⟨q0, q1, q2, q3, q4, q5, q6, q7, _⟩, ⟨p0, p1, p2, p3, p4, p5, p6, p7, _⟩, eN⟩ := hSw
          first | (go_simp; done) | (go_simp; with_reducible rfl)
      simp only [List.setIfInBounds_toArray, List.set_cons_zero, List.set_cons_succ]
      refine takeD (i := 30) (v := ?_) 62 rfl rfl ?_ ?_ ?_ (fun _ _ _ h => h) ?_ (by assumption) ?_
      rotate_left
      · kernel_rfl
      · kernel_rfl
      · kernel_rfl
      · refine Or.inl (And.intro ?_ ?_)
        · rfl
        · intro w hSw
          obtain ⟨⟨c0, c1, c2, c3, c4, c5, c6, c7, _⟩, ⟨q0, q1, q2, q3, q4, q5, q6, q7, _⟩, ⟨p0, p1, p2, p3, p4, p5, p6, p7, _⟩, eN⟩ := hSw
          first | (go_simp; done) | (go_simp; with_reducible rfl)
      simp only [List.setIfInBounds_toArray, List.set_cons_zero, List.set_cons_succ]
      refine takeD (i := 31) (v := ?_) 63 rfl rfl ?_ ?_ ?_ (fun _ _ _ h => h) ?_ (by assumption) ?_
      rotate_left
      · kernel_rfl
      · kernel_rfl
      · kernel_rfl
      · refine Or.inl (And.intro ?_ ?_)
        · rfl
        · intro w hSw
          obtain ⟨⟨c0, c1, c2, c3, c4, c5, c6, c7, _⟩, ⟨q0, q1, q2, q3, q4, q5, q6, q7, _⟩, ⟨p0, p1, p2, p3, p4, p5, p6, p7, _⟩, eN⟩ := hSw
          first | (go_simp; done) | (go_simp; with_reducible rfl)
      simp only [List.setIfInBounds_toArray, List.set_cons_zero, List.set_cons_succ]
      refine wpAnyH_ready (rs := [32]) (by kernel_rfl) (by simp) ?_
      refine AllReadyH.cons rfl (fun K hK => ?_) AllReadyH.nil
      go_simp
      go_wp2_with (go_at_call 10; (with_reducible refine (works_any _).mono ?_); rintro e y32 ⟨rfl, kx⟩)
      refine hK.out _ _ ?_ (fun hHeld2 => ?_)
      · exact ⟨hHeld.1.nw kx, hHeld.2.1.nw kx, hHeld.2.2.1.nw kx, hHeld.2.2.2.trans kx⟩
      have hHeld := hHeld2
      clear hHeld2 hK K
      refine takeD (i := 33) (v := ?_) 65 rfl rfl ?_ ?_ ?_ (fun _ _ _ h => h) ?_ (by assumption) ?_
      rotate_left
      · kernel_rfl
      · kernel_rfl
      · kernel_rfl
      · refine Or.inl (And.intro ?_ ?_)
        · rfl
        · intro w hSw
          obtain ⟨⟨c0, c1, c2, c3, c4, c5, c6, c7, _⟩, ⟨q0, q1, q2, q3, q4, q5, q6, q7, _⟩, ⟨p0, p1, p2, p3, p4, p5, p6, p7, _⟩, eN⟩ := hSw
          first | (go_simp; done) | (go_simp; with_reducible rfl)
      simp only [List.setIfInBounds_toArray, List.set_cons_zero, List.set_cons_succ]
      refine takeD (i := 34) (v := ?_) 4 rfl rfl ?_ ?_ ?_ (fun _ _ _ h => h) ?_ (by assumption) ?_
      rotate_left
      · kernel_rfl
      · kernel_rfl
      · kernel_rfl
      · refine Or.inl (And.intro ?_ ?_)
        · rfl
        · intro w hSw
          obtain ⟨⟨c0, c1, c2, c3, c4, c5, c6, c7, _⟩, ⟨q0, q1, q2, q3, q4, q5, q6, q7, _⟩, ⟨p0, p1, p2, p3, p4, p5, p6, p7, _⟩, eN⟩ := hSw
          first | (go_simp; done) | (go_simp; with_reducible rfl)
      simp only [List.setIfInBounds_toArray, List.set_cons_zero, List.set_cons_succ]
      refine wpAnyH_done (by kernel_rfl) ?_ _
      refine NoPanic.normal ?_
      go_wp2_with fail
      go_ret
      exact ⟨rfl, ((HN3.out.trans HA5.out).trans (HA7.out.trans hHeld.2.2.2)).b⟩

end Go.Proofs.Ytphcdndohdnolaa
