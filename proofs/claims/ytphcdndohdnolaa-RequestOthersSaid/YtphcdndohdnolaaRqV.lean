/-
  THE WALK OF RequestBack.
-/
import Derived.Deep.DeepCutAuto
import Derived.Outline
import Derived.Test.YtphcdndohdnolaaRqS
import Derived.Test.YtphcdndohdnolaaRqZ
namespace Go.Proofs.Ytphcdndohdnolaa
open Go.RowKit Go.Shelf
set_option linter.unusedVariables false

theorem putQ_byte {r : Rq} (hr : okRq r) : ∀ x ∈ putQ r, isByte x := by
  unfold putQ
  split
  · exact putL_byte hr
  · simp
theorem str_same {xs ys : List Int} {d : Bool} (hx : ∀ x ∈ xs, isByte x) (hy : ∀ y ∈ ys, isByte y) (h : decide (xs = ys) = d) : ((strOfNums xs).toList == (strOfNums ys).toList) = d := by
  subst h
  by_cases he : xs = ys
  · rw [decide_eq_true he, he, beq_self_eq_true]
  · rw [decide_eq_false he, beq_eq_false_iff_ne]
    exact fun h => he ((strOf_inj hx hy).1 (ba_toList h))
theorem small_getQ {zs : List Int} (hz : ∀ x ∈ zs, isByte x) : smallRq (getQ zs) := by
  unfold getQ
  split
  · exact readS_small hz
  · exact ex0_ok
theorem eql_rq0 (q : Rq) (W : World) : (binOp .eql 24 (.agg #[.int .u8 q.kind, .int .u8 q.flags, .int .u64 q.fd, .int .u64 q.pos, .int .u64 q.size, .string q.path, .string q.dst, .string q.data]) (.agg #[.int .u8 0, .int .u8 0, .int .u64 0, .int .u64 0, .int .u64 0, .string ⟨#[]⟩, .string ⟨#[]⟩, .string ⟨#[]⟩])).run Try.prog W = .ok (.bool (decide (q = zeroRq))) W := eql_rq q zeroRq W
theorem getOk_nil : getOk [] = false := by decide

set_option maxRecDepth 100000 in
set_option maxHeartbeats 8000000 in
attribute [local go_sem high] eql_rq in
attribute [local go_sem high] neq_rq in
attribute [local go_sem high] eql_rq0 in
theorem walk_rback (r o : Rq) (hr : okRq r) (ho : okRq o) (a : Option Addr) (len cap : Nat) (zs : List Int) (hl : zs.length = len) (hcap : len ≤ cap) (hreach : len ≤ 140737488351232) (hz : ∀ x ∈ zs, isByte x) (cut : Nat) (hcut : cut < 65536) (w : World) (hI : Ints w.heap.size .u8 w a zs) :
    Calls Try.prog 4 #[rqV r, rqV o, .slice a len cap, .int .u16 (cut : Int)] w fun e w' => e = .returned (.bool true) ∧ Below w.heap.size w w' := by
  obtain ⟨i0, hi, hz0, hz1, hz2⟩ := info_parts8 info_u8
  have R0 := RqAt.new w r
  have O0 := RqAt.new (w.alloc (.cells #[.int .u8 r.kind, .int .u8 r.flags, .int .u64 r.fd, .int .u64 r.pos, .int .u64 r.size, .string r.path, .string r.dst, .string r.data] 24)) o
  have hn0 : Nw w (w.alloc (.cells #[.int .u8 r.kind, .int .u8 r.flags, .int .u64 r.fd, .int .u64 r.pos, .int .u64 r.size, .string r.path, .string r.dst, .string r.data] 24)) := Nw.refl.alloc _
  have hn1 := hn0.alloc (.cells #[.int .u8 o.kind, .int .u8 o.flags, .int .u64 o.fd, .int .u64 o.pos, .int .u64 o.size, .string o.path, .string o.dst, .string o.data] 24)
  have R1 := R0.nw (Nw.refl.alloc (.cells #[.int .u8 o.kind, .int .u8 o.flags, .int .u64 o.fd, .int .u64 o.pos, .int .u64 o.size, .string o.path, .string o.dst, .string o.data] 24))
  have HF := Lib.hid (fun W => few_any r hr.path hr.dst hr.data W)
  have HF2 := Lib.hid (fun W => few_any o ho.path ho.dst ho.data W)
  obtain ⟨few, hfew⟩ : ∃ few, decide ((r.path.size : Int) + r.dst.size + r.data.size ≤ 2048) = few := ⟨_, rfl⟩
  obtain ⟨few2, hfew2⟩ : ∃ few, decide ((o.path.size : Int) + o.dst.size + o.data.size ≤ 2048) = few := ⟨_, rfl⟩
  rw [hfew] at HF
  rw [hfew2] at HF2
  have HFW := Lib.hid hfew
  have HFW2 := Lib.hid hfew2
  have HR := Lib.hid hr
  have HO := Lib.hid ho
  have HZ := Lib.hid hz
  have HL := Lib.hid hl
  have HIW := Lib.hid (fun W (h : Nw w W) => h.ints hI)
  unfold rqV at HF HF2 ⊢
  clear hfew hfew2 hr ho hz hl hI R0 hn0
  go_enter Try.func4, Try.ntmps4
  go_upto_region 1 with fail
  rw [show (w.alloc (.cells #[.int .u8 r.kind, .int .u8 r.flags, .int .u64 r.fd, .int .u64 r.pos, .int .u64 r.size, .string r.path, .string r.dst, .string r.data] 24)).heap.size = w.heap.size + 1 from by simp] at O0
  generalize (w.alloc (.cells #[.int .u8 r.kind, .int .u8 r.flags, .int .u64 r.fd, .int .u64 r.pos, .int .u64 r.size, .string r.path, .string r.dst, .string r.data] 24)).alloc (.cells #[.int .u8 o.kind, .int .u8 o.flags, .int .u64 o.fd, .int .u64 o.pos, .int .u64 o.size, .string o.path, .string o.dst, .string o.data] 24) = W1 at R1 O0 hn1 ⊢
  have HR0 := Lib.hid R1
  have HO0 := Lib.hid O0
  have HN0 := Lib.hid hn1
  obtain ⟨c0, c1, c2, c3, c4, c5, c6, c7, _⟩ := R1
  clear hn1 O0
  go_wp2_with fail
  refine (HF.out _).mono ?_
  rintro e w2 ⟨rfl, hN2⟩
  have HN2 := Lib.hid (HN0.out.trans hN2)
  have HR2 := Lib.hid (HR0.out.nw hN2)
  have hO2 := HO0.out.nw hN2
  have HO2 := Lib.hid hO2
  clear c0 c1 c2 c3 c4 c5 c6 c7 hN2 HR0 HO0
  cases few with
  | false =>
    clear hO2
    go_wp2_with fail
    refine (works_any _).mono ?_
    rintro e w3 ⟨rfl, hN3⟩
    go_wp2_with fail
    go_ret
    exact ⟨rfl, (HN2.out.trans hN3).b⟩
  | true =>
  obtain ⟨c0, c1, c2, c3, c4, c5, c6, c7, _⟩ := hO2
  go_wp2_with fail
  refine (HF2.out _).mono ?_
  rintro e w2b ⟨rfl, hN2⟩
  replace HN2 := Lib.hid (HN2.out.trans hN2)
  have hR2 := HR2.out.nw hN2
  replace HR2 := Lib.hid hR2
  replace HO2 := Lib.hid (HO2.out.nw hN2)
  clear c0 c1 c2 c3 c4 c5 c6 c7 hN2 HF HF2
  cases few2 with
  | false =>
    clear hR2
    go_wp2_with fail
    refine (works_any _).mono ?_
    rintro e w3 ⟨rfl, hN3⟩
    go_wp2_with fail
    go_ret
    exact ⟨rfl, (HN2.out.trans hN3).b⟩
  | true =>
  by_cases hbig : 2048 < len
  · clear hR2
    go_wp2_with fail
    refine (works_any _).mono ?_
    rintro e w3 ⟨rfl, hN3⟩
    go_wp2_with fail
    go_ret
    exact ⟨rfl, (HN2.out.trans hN3).b⟩
  have HS := Lib.hid (few_small HR.out (of_decide_eq_true HFW.out))
  have HS2 := Lib.hid (few_small HO.out (of_decide_eq_true HFW2.out))
  have hlen : len ≤ 2048 := by omega
  have HPU := Lib.hid (fun W => putq_any r HS.out W)
  unfold rqV at HPU
  obtain ⟨c0, c1, c2, c3, c4, c5, c6, c7, _⟩ := hR2
  go_wp2_with fail
  refine (HPU.out _).mono ?_
  intro e w3 h3
  obtain ⟨a3, c3b, n3, hn3, rfl, hI3, hN3, hown3⟩ := OwnR.app (zs := []) (ys := putQ r) Nw.refl h3
  have hcap3 := own_cap hown3
  clear hown3
  simp only [List.nil_append] at hn3 hI3
  clear h3 c0 c1 c2 c3 c4 c5 c6 c7
  replace HN2 := Lib.hid (HN2.out.trans hN3)
  replace HR2 := Lib.hid (HR2.out.nw hN3)
  replace HO2 := Lib.hid (HO2.out.nw hN3)
  have HI3 := Lib.hid hI3
  have HN3L := Lib.hid hn3
  cases hmm : mayQ r with
  | false =>
    have hps : putQ r = [] := if_neg (by rw [hmm]; decide)
    rw [hps] at hn3 hI3
    obtain rfl : n3 = 0 := hn3
    have HG := Lib.hid (get_any a3 0 c3b [] rfl (by omega) (by simp) w3 hI3)
    have HMY := Lib.hid (fun W => may_any r HS.out W)
    unfold rqV at HMY
    rw [hmm] at HMY
    clear hI3
    go_wp2_with fail
    refine HG.out.mono ?_
    rintro e w4 ⟨rfl, hN4⟩
    rw [(get_no getOk_nil).1, (get_no getOk_nil).2]
    generalize zeroRq = x0
    unfold rqV
    go_upto_region 5 with fail
    have hQ5 := RqAt.new w4 x0
    have HA5 := Lib.hid ((HN2.out.trans hN4).alloc (.cells #[.int .u8 x0.kind, .int .u8 x0.flags, .int .u64 x0.fd, .int .u64 x0.pos, .int .u64 x0.size, .string x0.path, .string x0.dst, .string x0.data] 24))
    have hr5 := (HR2.out.nw hN4).nw (Nw.refl.alloc (.cells #[.int .u8 x0.kind, .int .u8 x0.flags, .int .u64 x0.fd, .int .u64 x0.pos, .int .u64 x0.size, .string x0.path, .string x0.dst, .string x0.data] 24))
    generalize w4.alloc (.cells #[.int .u8 x0.kind, .int .u8 x0.flags, .int .u64 x0.fd, .int .u64 x0.pos, .int .u64 x0.size, .string x0.path, .string x0.dst, .string x0.data] 24) = w5 at hr5 HA5 hQ5 ⊢
    generalize w4.heap.size = b5 at hQ5 ⊢
    obtain ⟨c0, c1, c2, c3, c4, c5, c6, c7, _⟩ := hr5
    clear hQ5
    go_wp2_with fail
    refine (HMY.out _).mono ?_
    rintro e w6 ⟨rfl, hN6⟩
    replace HA5 := Lib.hid (HA5.out.trans hN6)
    clear c0 c1 c2 c3 c4 c5 c6 c7 hN6
    go_wp2_with fail
    refine (get_any a len cap zs HL.out (by omega) HZ.out _ (HIW.out _ HA5.out)).mono ?_
    rintro e w12 ⟨rfl, hN12⟩
    have HM12 := Lib.hid (HA5.out.trans hN12)
    clear hN12
    obtain ⟨g, hg⟩ : ∃ g, getQ zs = g := ⟨_, rfl⟩
    have hsg : smallRq g := hg ▸ small_getQ HZ.out
    have HSG := Lib.hid hsg
    clear hsg
    cases hgo : getOk zs with
    | false =>
      have hg0 : g = zeroRq := hg.symm.trans (get_no hgo).1
      have HG0 := Lib.hid hg0
      rw [(get_no hgo).2, hg]
      clear hg hg0 hgo
      unfold rqV
      go_upto_region 13 with fail
      have hQ := RqAt.new w12 g
      have HA := Lib.hid (HM12.out.alloc (.cells #[.int .u8 g.kind, .int .u8 g.flags, .int .u64 g.fd, .int .u64 g.pos, .int .u64 g.size, .string g.path, .string g.dst, .string g.data] 24))
      generalize w12.alloc (.cells #[.int .u8 g.kind, .int .u8 g.flags, .int .u64 g.fd, .int .u64 g.pos, .int .u64 g.size, .string g.path, .string g.dst, .string g.data] 24) = w13 at hQ HA ⊢
      generalize w12.heap.size = b13 at hQ ⊢
      obtain ⟨q0, q1, q2, q3, q4, q5, q6, q7, _⟩ := hQ
      have hgz : decide (g = zeroRq) = true := decide_eq_true HG0.out
      go_wp2_with fail
      refine (works_any _).mono ?_
      rintro e w14 ⟨rfl, hN14⟩
      go_wp2_with fail
      go_ret
      exact ⟨rfl, (HA.out.trans hN14).b⟩
    | true =>
      have hga := get_ok hgo
      rw [hg] at hga
      have hpg : putQ g = zs := by rw [putQ, if_pos hga.1]; exact hga.2
      have hge : getE zs = 0 := by unfold getE; rw [if_pos hgo]
      rw [hge, hg]
      have HMG := Lib.hid (fun W => may_any g HSG.out W)
      rw [hga.1] at HMG
      have HPG := Lib.hid (fun W => putq_any g HSG.out W)
      rw [hpg] at HPG
      unfold rqV at HMG HPG ⊢
      clear hg hga hpg hge hgo
      go_upto_region 13 with fail
      have hQ := RqAt.new w12 g
      have HA := Lib.hid (HM12.out.alloc (.cells #[.int .u8 g.kind, .int .u8 g.flags, .int .u64 g.fd, .int .u64 g.pos, .int .u64 g.size, .string g.path, .string g.dst, .string g.data] 24))
      generalize w12.alloc (.cells #[.int .u8 g.kind, .int .u8 g.flags, .int .u64 g.fd, .int .u64 g.pos, .int .u64 g.size, .string g.path, .string g.dst, .string g.data] 24) = w13 at hQ HA ⊢
      generalize w12.heap.size = b13 at hQ ⊢
      have HQ := Lib.hid hQ
      clear hQ
      go_upto_region 15 with fail
      have HCVZ := Lib.hid (fun (X : World) (h : Nw w13 X) => cv8 (w := X) cap HL.out (HIW.out X (HA.out.trans h)))
      refine wp_region_noPanic ?_
      refine wp_region_held_drew (S := (fun w' => RqAt w' b13 g ∧ Nw w13 w')) (by kernel_rfl) ?_ (fun hHeld => ?_)
      · exact ⟨HQ.out.nw Nw.refl.drew, Nw.refl.drew⟩
      refine takeD (i := 0) (v := ?_) 124 rfl rfl ?_ ?_ ?_ (fun _ _ _ h => h) ?_ (by assumption) ?_
      rotate_left
      · kernel_rfl
      · kernel_rfl
      · kernel_rfl
      · refine Or.inl (And.intro ?_ ?_)
        · rfl
        · intro w hSw
          obtain ⟨⟨q0, q1, q2, q3, q4, q5, q6, q7, _⟩, eN⟩ := hSw
          first | (go_simp; done) | (go_simp; with_reducible rfl)
      simp only [List.setIfInBounds_toArray, List.set_cons_zero, List.set_cons_succ]
      refine wpAnyH_ready (rs := [1]) (by kernel_rfl) (by simp) ?_
      refine AllReadyH.cons rfl (fun K hK => ?_) AllReadyH.nil
      go_simp
      go_wp2_with (go_at_call 13; (with_reducible refine (HMG.out _).mono ?_); rintro e y1 ⟨rfl, kx⟩)
      refine hK.out _ _ ?_ (fun hHeld2 => ?_)
      · exact ⟨hHeld.1.nw kx, hHeld.2.trans kx⟩
      have hHeld := hHeld2
      clear hHeld2 hK K
      refine takeD (i := 2) (v := ?_) 126 rfl rfl ?_ ?_ ?_ (fun _ _ _ h => h) ?_ (by assumption) ?_
      rotate_left
      · kernel_rfl
      · kernel_rfl
      · kernel_rfl
      · refine Or.inl (And.intro ?_ ?_)
        · rfl
        · intro w hSw
          obtain ⟨⟨q0, q1, q2, q3, q4, q5, q6, q7, _⟩, eN⟩ := hSw
          first | (go_simp; done) | (go_simp; with_reducible rfl)
      simp only [List.setIfInBounds_toArray, List.set_cons_zero, List.set_cons_succ]
      refine takeD (i := 3) (v := ?_) 127 rfl rfl ?_ ?_ ?_ (fun _ _ _ h => h) ?_ (by assumption) ?_
      rotate_left
      · kernel_rfl
      · kernel_rfl
      · kernel_rfl
      · refine Or.inl (And.intro ?_ ?_)
        · rfl
        · intro w hSw
          obtain ⟨⟨q0, q1, q2, q3, q4, q5, q6, q7, _⟩, eN⟩ := hSw
          first | (go_simp; done) | (go_simp; with_reducible rfl)
      simp only [List.setIfInBounds_toArray, List.set_cons_zero, List.set_cons_succ]
      refine takeD (i := 6) (v := ?_) 130 rfl rfl ?_ ?_ ?_ (fun _ _ _ h => h) ?_ (by assumption) ?_
      rotate_left
      · kernel_rfl
      · kernel_rfl
      · kernel_rfl
      · refine Or.inl (And.intro ?_ ?_)
        · rfl
        · intro w hSw
          obtain ⟨⟨q0, q1, q2, q3, q4, q5, q6, q7, _⟩, eN⟩ := hSw
          first | (go_simp; done) | (go_simp; with_reducible rfl)
      simp only [List.setIfInBounds_toArray, List.set_cons_zero, List.set_cons_succ]
      refine takeD (i := 7) (v := ?_) 131 rfl rfl ?_ ?_ ?_ (fun _ _ _ h => h) ?_ (by assumption) ?_
      rotate_left
      · kernel_rfl
      · kernel_rfl
      · kernel_rfl
      · refine Or.inl (And.intro ?_ ?_)
        · rfl
        · intro w hSw
          obtain ⟨⟨q0, q1, q2, q3, q4, q5, q6, q7, _⟩, eN⟩ := hSw
          have hv1 := HCVZ.out w eN
          first | (go_simp; done) | (go_simp; with_reducible rfl)
      simp only [List.setIfInBounds_toArray, List.set_cons_zero, List.set_cons_succ]
      refine wpAnyH_ready (rs := [4]) (by kernel_rfl) (by simp) ?_
      refine AllReadyH.cons rfl (fun K hK => ?_) AllReadyH.nil
      go_simp
      go_wp2_with (go_at_call 15; (with_reducible refine (HPG.out _).mono ?_); intro e y4 h4; obtain ⟨a4, c4, n4, hn4, rfl, hI4, kx, _⟩ := OwnR.app (zs := []) (ys := zs) Nw.refl h4; have HC4 := Lib.hid (fun (X : World) (h : Nw y4 X) => cv8 (w := X) c4 hn4.symm (h.ints hI4)); clear hn4 h4 hI4)
      refine hK.out _ _ ?_ (fun hHeld2 => ?_)
      · exact ⟨hHeld.1.nw kx, hHeld.2.trans kx⟩
      have hHeld := hHeld2
      clear hHeld2 hK K
      refine wpAnyH_ready (rs := [5]) (by kernel_rfl) (by simp) ?_
      refine AllReadyH.cons rfl (fun K hK => ?_) AllReadyH.nil
      have hcv := HC4.out _ Nw.refl
      simp only [List.nil_append] at hcv
      go_simp
      refine hK.out _ _ ?_ (fun hHeld2 => ?_)
      · exact hHeld
      have hHeld := hHeld2
      clear hHeld2 hK K hcv
      refine takeD (i := 8) (v := ?_) 132 rfl rfl ?_ ?_ ?_ (fun _ _ _ h => h) ?_ (by assumption) ?_
      rotate_left
      · kernel_rfl
      · kernel_rfl
      · kernel_rfl
      · refine Or.inl (And.intro ?_ ?_)
        · rfl
        · intro w hSw
          obtain ⟨⟨q0, q1, q2, q3, q4, q5, q6, q7, _⟩, eN⟩ := hSw
          first | (go_simp; done) | (go_simp; with_reducible rfl)
      simp only [List.setIfInBounds_toArray, List.set_cons_zero, List.set_cons_succ]
      refine takeD (i := 9) (v := ?_) 133 rfl rfl ?_ ?_ ?_ (fun _ _ _ h => h) ?_ (by assumption) ?_
      rotate_left
      · kernel_rfl
      · kernel_rfl
      · kernel_rfl
      · refine Or.inl (And.intro ?_ ?_)
        · rfl
        · intro w hSw
          obtain ⟨⟨q0, q1, q2, q3, q4, q5, q6, q7, _⟩, eN⟩ := hSw
          first | (go_simp; done) | (go_simp; with_reducible rfl)
      simp only [List.setIfInBounds_toArray, List.set_cons_zero, List.set_cons_succ]
      refine takeD (i := 10) (v := ?_) 134 rfl rfl ?_ ?_ ?_ (fun _ _ _ h => h) ?_ (by assumption) ?_
      rotate_left
      · kernel_rfl
      · kernel_rfl
      · kernel_rfl
      · refine Or.inl (And.intro ?_ ?_)
        · rfl
        · intro w hSw
          obtain ⟨⟨q0, q1, q2, q3, q4, q5, q6, q7, _⟩, eN⟩ := hSw
          first | (go_simp; done) | (go_simp; with_reducible rfl)
      simp only [List.setIfInBounds_toArray, List.set_cons_zero, List.set_cons_succ]
      refine wpAnyH_ready (rs := [11]) (by kernel_rfl) (by simp) ?_
      refine AllReadyH.cons rfl (fun K hK => ?_) AllReadyH.nil
      go_simp
      go_wp2_with (go_at_call 10; (with_reducible refine (works_any _).mono ?_); rintro e y11 ⟨rfl, kx⟩)
      refine hK.out _ _ ?_ (fun hHeld2 => ?_)
      · exact ⟨hHeld.1.nw kx, hHeld.2.trans kx⟩
      have hHeld := hHeld2
      clear hHeld2 hK K
      refine takeD (i := 12) (v := ?_) 136 rfl rfl ?_ ?_ ?_ (fun _ _ _ h => h) ?_ (by assumption) ?_
      rotate_left
      · kernel_rfl
      · kernel_rfl
      · kernel_rfl
      · refine Or.inl (And.intro ?_ ?_)
        · rfl
        · intro w hSw
          obtain ⟨⟨q0, q1, q2, q3, q4, q5, q6, q7, _⟩, eN⟩ := hSw
          first | (go_simp; done) | (go_simp; with_reducible rfl)
      simp only [List.setIfInBounds_toArray, List.set_cons_zero, List.set_cons_succ]
      refine takeD (i := 13) (v := ?_) 8 rfl rfl ?_ ?_ ?_ (fun _ _ _ h => h) ?_ (by assumption) ?_
      rotate_left
      · kernel_rfl
      · kernel_rfl
      · kernel_rfl
      · refine Or.inl (And.intro ?_ ?_)
        · rfl
        · intro w hSw
          obtain ⟨⟨q0, q1, q2, q3, q4, q5, q6, q7, _⟩, eN⟩ := hSw
          first | (go_simp; done) | (go_simp; with_reducible rfl)
      simp only [List.setIfInBounds_toArray, List.set_cons_zero, List.set_cons_succ]
      refine wpAnyH_done (by kernel_rfl) ?_ _
      refine NoPanic.normal ?_
      go_wp2_with fail
      go_ret
      exact ⟨rfl, (HA.out.trans hHeld.2).b⟩
  | true =>
    have hps : putQ r = putL r := if_pos hmm
    rw [hps] at hn3 hI3
    have hgp := get_put_ok HR.out hmm
    have hpl := putL_len HS.out
    have HPB := Lib.hid (putL_byte HR.out)
    have hcn := fun k => cut_not HS.out hmm k
    have hmo := more_not HS.out hmm
    have HPS := Lib.hid (fun (y : Rq) (hy : okRq y) (my : mayQ y = true) => put_same HR.out hy hmm my)
    rw [hps] at HPS
    have HMY := Lib.hid (fun W => may_any r HS.out W)
    rw [hmm] at HMY
    unfold rqV at HMY
    obtain ⟨E, hE⟩ : ∃ E, n3 = E + 1 := ⟨n3 - 1, by rw [hn3]; simp [putL]⟩
    subst hE
    generalize putL r = ps at hn3 hI3 hgp hpl HPB hcn hmo HPS hps
    rw [← hn3] at hpl
    replace hcn := Lib.hid (fun k (h : k < E + 1) => hcn k (by rw [← hn3]; exact h))
    replace hmo := Lib.hid hmo
    have HPL := Lib.hid hn3.symm
    replace HI3 := Lib.hid hI3
    have hE2 : E ≤ 200018 := by omega
    have HG := Lib.hid (get_any a3 (E + 1) c3b ps HPL.out (by omega) HPB.out w3 hI3)
    clear hI3 hn3 HN3L hps
    go_wp2_with fail
    refine HG.out.mono ?_
    rintro e w4 ⟨rfl, hN4⟩
    rw [hgp.2.1, hgp.2.2]
    clear hgp hpl
    unfold rqV
    go_upto_region 5 with fail
    have hQ5 := RqAt.new w4 r
    have HA5 := Lib.hid (hN4.alloc (.cells #[.int .u8 r.kind, .int .u8 r.flags, .int .u64 r.fd, .int .u64 r.pos, .int .u64 r.size, .string r.path, .string r.dst, .string r.data] 24))
    generalize w4.alloc (.cells #[.int .u8 r.kind, .int .u8 r.flags, .int .u64 r.fd, .int .u64 r.pos, .int .u64 r.size, .string r.path, .string r.dst, .string r.data] 24) = w5 at HA5 hQ5 ⊢
    generalize w4.heap.size = b5 at hQ5 ⊢
    have HQ5 := Lib.hid hQ5
    clear hN4 hQ5
    obtain ⟨c0, c1, c2, c3, c4, c5, c6, c7, _⟩ := HR2.out.nw HA5.out
    go_wp2_with (go_at_call 13; fail)
    refine (HMY.out _).mono ?_
    rintro e w6 ⟨rfl, hN6⟩
    replace HA5 := Lib.hid (HA5.out.trans hN6)
    obtain ⟨q0, q1, q2, q3, q4, q5, q6, q7, _⟩ := HQ5.out.nw hN6
    clear c0 c1 c2 c3 c4 c5 c6 c7 hN6
    obtain ⟨c0, c1, c2, c3, c4, c5, c6, c7, _⟩ := HR2.out.nw HA5.out
    obtain ⟨q, hq⟩ : ∃ q : Nat, cut % (E + 1) = q := ⟨_, rfl⟩
    have hqi : (cut : Int) % ((E : Int) + 1) = (q : Int) := by rw [← hq, Int.natCast_emod, Int.natCast_add]; rfl
    have hqE : q < E + 1 := hq ▸ Nat.mod_lt _ (Nat.succ_pos E)
    clear hq
    go_upto_region 8 with fail
    clear c0 c1 c2 c3 c4 c5 c6 c7 q0 q1 q2 q3 q4 q5 q6 q7
    go_wp2_with fail
    refine (get_any a3 q c3b (ps.take q) (by rw [List.length_take, HPL.out]; omega) (by omega) (fun x hx => HPB.out x (List.mem_of_mem_take hx)) _ ((HA5.out.ints HI3.out).take q)).mono ?_
    rintro e w8 ⟨rfl, hN8⟩
    rw [(get_no (hcn.out q hqE)).1, (get_no (hcn.out q hqE)).2]
    generalize zeroRq = x8
    clear hqE hqi
    unfold rqV
    go_upto_region 9 with fail
    have HA9 := Lib.hid ((HA5.out.trans hN8).alloc (.cells #[.int .u8 x8.kind, .int .u8 x8.flags, .int .u64 x8.fd, .int .u64 x8.pos, .int .u64 x8.size, .string x8.path, .string x8.dst, .string x8.data] 24))
    clear hN8
    generalize w8.alloc (.cells #[.int .u8 x8.kind, .int .u8 x8.flags, .int .u64 x8.fd, .int .u64 x8.pos, .int .u64 x8.size, .string x8.path, .string x8.dst, .string x8.data] 24) = w9 at HA9 ⊢
    generalize w8.heap.size = b9
    go_wp2_with (first | (at_builtin; refine wpList_append_ints _ rfl (.tmp 77) (.tmp 78) 25 rfl w9.heap.size 5 i0 (.int .u8 0) 1 Try.underlying25 hi hz0 hz1 hz2 rfl _ 0 [] rfl (World.ownsRow_made _ #[] 0 (Nat.le_refl _) (Nat.zero_le _) (by simp)) _ (E + 1) c3b .u8 ps _ rfl HPL.out (Ints.below (Nw.refl.alloc _).b (HA9.out.ints HI3.out)) (by unfold maxLen; omega) (by omega) (by simp) ?_; intro vA wA hownA hgrowA; have hbA : Below w9.heap.size w9 wA := ((Below.refl _ w9).alloc (Nat.le_refl _) _).grown hgrowA (by simp) (fun k e => by cases e; exact Nat.le_refl _); clear hgrowA; have hsA := hbA.size; simp only [Nat.zero_add, List.nil_append] at hownA; obtain ⟨aA, cA, rfl⟩ := own_slice hownA) | (at_builtin; go_loud (refine wpList_append_ints _ rfl (.tmp 79) (.tmp 80) 25 rfl w9.heap.size 5 i0 (.int .u8 0) 1 Try.underlying25 hi hz0 hz1 hz2 rfl _ _ _ rfl (hownA.alloc _) _ 1 1 .u8 [0] _ rfl rfl (Ints.one _ _ _ _) (by unfold maxLen; omega) (by omega) (by simp; omega) ?_); intro vB wB hownB hgrowB; have hbB : Below w9.heap.size w9 wB := Below.grownRow (hbA.alloc hsA _) hgrowB (by simp; omega) (hownA.alloc _) (Nat.le_refl _); clear hgrowB; rw [← List.map_append] at hownB; obtain ⟨aB, cB, rfl⟩ := own_slice hownB) | fail)
    obtain ⟨aB2, cB2, heB, _, hIB⟩ := Ints.of_owns hownB
    simp only [Value.slice.injEq, true_and] at heB
    obtain ⟨rfl, rfl⟩ := heB
    refine (get_any aB _ cB (ps ++ [0]) (by rw [List.length_append, HPL.out]; rfl) (by omega) (fun x hx => (List.mem_append.mp hx).elim (HPB.out x) (fun h => by rw [List.mem_singleton.mp h]; exact ⟨by decide, by decide⟩)) wB hIB).mono ?_
    rintro e w10 ⟨rfl, hN10⟩
    rw [(get_no hmo.out).1, (get_no hmo.out).2]
    generalize zeroRq = x10
    unfold rqV
    go_upto_region 10 with fail
    have hNB : Nw w9 wB := ⟨hbB⟩
    have HA11 := Lib.hid (((HA9.out.trans hNB).trans hN10).alloc (.cells #[.int .u8 x10.kind, .int .u8 x10.flags, .int .u64 x10.fd, .int .u64 x10.pos, .int .u64 x10.size, .string x10.path, .string x10.dst, .string x10.data] 24))
    clear hNB hbB hbA hsA hownA hownB hIB hN10
    generalize w10.alloc (.cells #[.int .u8 x10.kind, .int .u8 x10.flags, .int .u64 x10.fd, .int .u64 x10.pos, .int .u64 x10.size, .string x10.path, .string x10.dst, .string x10.data] 24) = w11 at HA11 ⊢
    generalize w10.heap.size = b11
    have HMO := Lib.hid (fun W => may_any o HS2.out W)
    have HPO := Lib.hid (fun W => putq_any o HS2.out W)
    obtain ⟨d, hd⟩ : ∃ d, decide (o = r) = d := ⟨_, rfl⟩
    have HD := Lib.hid hd
    have HR11 := Lib.hid (HR2.out.nw HA11.out)
    have HO11 := Lib.hid (HO2.out.nw HA11.out)
    unfold rqV at HMO HPO
    have HCVB := Lib.hid (fun (X : World) (h : Nw w11 X) => cv8 (w := X) c3b HPL.out ((HA11.out.trans h).ints HI3.out))
    cases hmo2 : mayQ o with
    | false =>
      rw [hmo2] at HMO
      clear hd hmo2
      refine wp_region_noPanic ?_
      refine wp_region_held_drew (S := (fun w' => RqAt w' w.heap.size r ∧ RqAt w' (w.heap.size + 1) o ∧ Nw w11 w')) (by kernel_rfl) ?_ (fun hHeld => ?_)
      · exact ⟨HR11.out.nw Nw.refl.drew, HO11.out.nw Nw.refl.drew, Nw.refl.drew⟩
      refine takeD (i := 0) (v := ?_) 85 rfl rfl ?_ ?_ ?_ (fun _ _ _ h => h) ?_ (by assumption) ?_
      rotate_left
      · kernel_rfl
      · kernel_rfl
      · kernel_rfl
      · refine Or.inl (And.intro ?_ ?_)
        · rfl
        · intro w hSw
          obtain ⟨⟨c0, c1, c2, c3, c4, c5, c6, c7, _⟩, ⟨q0, q1, q2, q3, q4, q5, q6, q7, _⟩, eN⟩ := hSw
          first | (go_simp; done) | (go_simp; with_reducible rfl)
      simp only [List.setIfInBounds_toArray, List.set_cons_zero, List.set_cons_succ]
      refine takeD (i := 1) (v := ?_) 86 rfl rfl ?_ ?_ ?_ (fun _ _ _ h => h) ?_ (by assumption) ?_
      rotate_left
      · kernel_rfl
      · kernel_rfl
      · kernel_rfl
      · refine Or.inl (And.intro ?_ ?_)
        · rfl
        · intro w hSw
          obtain ⟨⟨c0, c1, c2, c3, c4, c5, c6, c7, _⟩, ⟨q0, q1, q2, q3, q4, q5, q6, q7, _⟩, eN⟩ := hSw
          first | (go_simp; done) | (go_simp; with_reducible rfl)
      simp only [List.setIfInBounds_toArray, List.set_cons_zero, List.set_cons_succ]
      refine takeD (i := 2) (v := ?_) 87 rfl rfl ?_ ?_ ?_ (fun _ _ _ h => h) ?_ (by assumption) ?_
      rotate_left
      · kernel_rfl
      · kernel_rfl
      · kernel_rfl
      · refine Or.inl (And.intro ?_ ?_)
        · rfl
        · intro w hSw
          obtain ⟨⟨c0, c1, c2, c3, c4, c5, c6, c7, _⟩, ⟨q0, q1, q2, q3, q4, q5, q6, q7, _⟩, eN⟩ := hSw
          first | (go_simp; done) | (go_simp; with_reducible rfl)
      simp only [List.setIfInBounds_toArray, List.set_cons_zero, List.set_cons_succ]
      refine takeD (i := 3) (v := ?_) 88 rfl rfl ?_ ?_ ?_ (fun _ _ _ h => h) ?_ (by assumption) ?_
      rotate_left
      · kernel_rfl
      · kernel_rfl
      · kernel_rfl
      · refine Or.inl (And.intro ?_ ?_)
        · rfl
        · intro w hSw
          obtain ⟨⟨c0, c1, c2, c3, c4, c5, c6, c7, _⟩, ⟨q0, q1, q2, q3, q4, q5, q6, q7, _⟩, eN⟩ := hSw
          first | (go_simp; done) | (go_simp; with_reducible rfl)
      simp only [List.setIfInBounds_toArray, List.set_cons_zero, List.set_cons_succ]
      refine takeD (i := 4) (v := ?_) 89 rfl rfl ?_ ?_ ?_ (fun _ _ _ h => h) ?_ (by assumption) ?_
      rotate_left
      · kernel_rfl
      · kernel_rfl
      · kernel_rfl
      · refine Or.inl (And.intro ?_ ?_)
        · rfl
        · intro w hSw
          obtain ⟨⟨c0, c1, c2, c3, c4, c5, c6, c7, _⟩, ⟨q0, q1, q2, q3, q4, q5, q6, q7, _⟩, eN⟩ := hSw
          first | (go_simp; done) | (go_simp; with_reducible rfl)
      simp only [List.setIfInBounds_toArray, List.set_cons_zero, List.set_cons_succ]
      refine takeD (i := 5) (v := ?_) 90 rfl rfl ?_ ?_ ?_ (fun _ _ _ h => h) ?_ (by assumption) ?_
      rotate_left
      · kernel_rfl
      · kernel_rfl
      · kernel_rfl
      · refine Or.inl (And.intro ?_ ?_)
        · rfl
        · intro w hSw
          obtain ⟨⟨c0, c1, c2, c3, c4, c5, c6, c7, _⟩, ⟨q0, q1, q2, q3, q4, q5, q6, q7, _⟩, eN⟩ := hSw
          first | (go_simp; done) | (go_simp; with_reducible rfl)
      simp only [List.setIfInBounds_toArray, List.set_cons_zero, List.set_cons_succ]
      refine takeD (i := 6) (v := ?_) 91 rfl rfl ?_ ?_ ?_ (fun _ _ _ h => h) ?_ (by assumption) ?_
      rotate_left
      · kernel_rfl
      · kernel_rfl
      · kernel_rfl
      · refine Or.inl (And.intro ?_ ?_)
        · rfl
        · intro w hSw
          obtain ⟨⟨c0, c1, c2, c3, c4, c5, c6, c7, _⟩, ⟨q0, q1, q2, q3, q4, q5, q6, q7, _⟩, eN⟩ := hSw
          first | (go_simp; done) | (go_simp; with_reducible rfl)
      simp only [List.setIfInBounds_toArray, List.set_cons_zero, List.set_cons_succ]
      refine takeD (i := 7) (v := ?_) 92 rfl rfl ?_ ?_ ?_ (fun _ _ _ h => h) ?_ (by assumption) ?_
      rotate_left
      · kernel_rfl
      · kernel_rfl
      · kernel_rfl
      · refine Or.inl (And.intro ?_ ?_)
        · rfl
        · intro w hSw
          obtain ⟨⟨c0, c1, c2, c3, c4, c5, c6, c7, _⟩, ⟨q0, q1, q2, q3, q4, q5, q6, q7, _⟩, eN⟩ := hSw
          first | (go_simp; done) | (go_simp; with_reducible rfl)
      simp only [List.setIfInBounds_toArray, List.set_cons_zero, List.set_cons_succ]
      refine wpAnyH_ready (rs := [8]) (by kernel_rfl) (by simp) ?_
      refine AllReadyH.cons rfl (fun K hK => ?_) AllReadyH.nil
      go_simp
      go_wp2_with (go_at_call 13; (with_reducible refine (HMO.out _).mono ?_); rintro e y8 ⟨rfl, kx⟩)
      refine hK.out _ _ ?_ (fun hHeld2 => ?_)
      · exact ⟨hHeld.1.nw kx, hHeld.2.1.nw kx, hHeld.2.2.trans kx⟩
      have hHeld := hHeld2
      clear hHeld2 hK K
      refine takeD (i := 9) (v := ?_) 94 rfl rfl ?_ ?_ ?_ (fun _ _ _ h => h) ?_ (by assumption) ?_
      rotate_left
      · kernel_rfl
      · kernel_rfl
      · kernel_rfl
      · refine Or.inl (And.intro ?_ ?_)
        · rfl
        · intro w hSw
          obtain ⟨⟨c0, c1, c2, c3, c4, c5, c6, c7, _⟩, ⟨q0, q1, q2, q3, q4, q5, q6, q7, _⟩, eN⟩ := hSw
          first | (go_simp; done) | (go_simp; with_reducible rfl)
      simp only [List.setIfInBounds_toArray, List.set_cons_zero, List.set_cons_succ]
      refine takeD (i := 10) (v := undef) 95 rfl rfl ?_ ?_ ?_ (fun _ _ _ h => h) (Or.inr (And.intro ?_ rfl)) (by assumption) ?_
      · kernel_rfl
      · kernel_rfl
      · kernel_rfl
      · rfl
      simp only [List.setIfInBounds_toArray, List.set_cons_zero, List.set_cons_succ]
      refine takeD (i := 13) (v := undef) 98 rfl rfl ?_ ?_ ?_ (fun _ _ _ h => h) (Or.inr (And.intro ?_ rfl)) (by assumption) ?_
      · kernel_rfl
      · kernel_rfl
      · kernel_rfl
      · rfl
      simp only [List.setIfInBounds_toArray, List.set_cons_zero, List.set_cons_succ]
      refine takeD (i := 14) (v := undef) 99 rfl rfl ?_ ?_ ?_ (fun _ _ _ h => h) (Or.inr (And.intro ?_ rfl)) (by assumption) ?_
      · kernel_rfl
      · kernel_rfl
      · kernel_rfl
      · rfl
      simp only [List.setIfInBounds_toArray, List.set_cons_zero, List.set_cons_succ]
      refine takeD (i := 16) (v := undef) 101 rfl rfl ?_ ?_ ?_ (fun _ _ _ h => h) (Or.inr (And.intro ?_ rfl)) (by assumption) ?_
      · kernel_rfl
      · kernel_rfl
      · kernel_rfl
      · rfl
      simp only [List.setIfInBounds_toArray, List.set_cons_zero, List.set_cons_succ]
      refine takeD (i := 17) (v := undef) 102 rfl rfl ?_ ?_ ?_ (fun _ _ _ h => h) (Or.inr (And.intro ?_ rfl)) (by assumption) ?_
      · kernel_rfl
      · kernel_rfl
      · kernel_rfl
      · rfl
      simp only [List.setIfInBounds_toArray, List.set_cons_zero, List.set_cons_succ]
      refine takeD (i := 18) (v := undef) 103 rfl rfl ?_ ?_ ?_ (fun _ _ _ h => h) (Or.inr (And.intro ?_ rfl)) (by assumption) ?_
      · kernel_rfl
      · kernel_rfl
      · kernel_rfl
      · rfl
      simp only [List.setIfInBounds_toArray, List.set_cons_zero, List.set_cons_succ]
      refine wpAnyH_ready (rs := [11]) (by kernel_rfl) (by simp) ?_
      refine AllReadyH.cons rfl (fun K hK => ?_) AllReadyH.nil
      go_simp
      refine hK.out _ _ ?_ (fun hHeld2 => ?_)
      · exact hHeld
      have hHeld := hHeld2
      clear hHeld2 hK K
      refine takeD (i := 12) (v := undef) 97 rfl rfl ?_ ?_ ?_ (fun _ _ _ h => h) (Or.inr (And.intro ?_ rfl)) (by assumption) ?_
      · kernel_rfl
      · kernel_rfl
      · kernel_rfl
      · rfl
      simp only [List.setIfInBounds_toArray, List.set_cons_zero, List.set_cons_succ]
      refine takeD (i := 15) (v := undef) 100 rfl rfl ?_ ?_ ?_ (fun _ _ _ h => h) (Or.inr (And.intro ?_ rfl)) (by assumption) ?_
      · kernel_rfl
      · kernel_rfl
      · kernel_rfl
      · rfl
      simp only [List.setIfInBounds_toArray, List.set_cons_zero, List.set_cons_succ]
      refine takeD (i := 19) (v := undef) 104 rfl rfl ?_ ?_ ?_ (fun _ _ _ h => h) (Or.inr (And.intro ?_ rfl)) (by assumption) ?_
      · kernel_rfl
      · kernel_rfl
      · kernel_rfl
      · rfl
      simp only [List.setIfInBounds_toArray, List.set_cons_zero, List.set_cons_succ]
      refine takeD (i := 20) (v := ?_) 105 rfl rfl ?_ ?_ ?_ (fun _ _ _ h => h) ?_ (by assumption) ?_
      rotate_left
      · kernel_rfl
      · kernel_rfl
      · kernel_rfl
      · refine Or.inl (And.intro ?_ ?_)
        · rfl
        · intro w hSw
          obtain ⟨⟨c0, c1, c2, c3, c4, c5, c6, c7, _⟩, ⟨q0, q1, q2, q3, q4, q5, q6, q7, _⟩, eN⟩ := hSw
          first | (go_simp; done) | (go_simp; with_reducible rfl)
      simp only [List.setIfInBounds_toArray, List.set_cons_zero, List.set_cons_succ]
      refine takeD (i := 21) (v := ?_) 106 rfl rfl ?_ ?_ ?_ (fun _ _ _ h => h) ?_ (by assumption) ?_
      rotate_left
      · kernel_rfl
      · kernel_rfl
      · kernel_rfl
      · refine Or.inl (And.intro ?_ ?_)
        · rfl
        · intro w hSw
          obtain ⟨⟨c0, c1, c2, c3, c4, c5, c6, c7, _⟩, ⟨q0, q1, q2, q3, q4, q5, q6, q7, _⟩, eN⟩ := hSw
          first | (go_simp; done) | (go_simp; with_reducible rfl)
      simp only [List.setIfInBounds_toArray, List.set_cons_zero, List.set_cons_succ]
      refine wpAnyH_done (by kernel_rfl) ?_ _
      refine NoPanic.normal ?_
      have HX := Lib.hid (HN2.out.trans (HA11.out.trans hHeld.2.2))
      go_wp2_with fail
      refine (get_any a len cap zs HL.out (by omega) HZ.out _ (HIW.out _ HX.out)).mono ?_
      rintro e w12 ⟨rfl, hN12⟩
      have HM12 := Lib.hid (HX.out.trans hN12)
      clear hN12
      obtain ⟨g, hg⟩ : ∃ g, getQ zs = g := ⟨_, rfl⟩
      have hsg : smallRq g := hg ▸ small_getQ HZ.out
      have HSG := Lib.hid hsg
      clear hsg
      cases hgo : getOk zs with
      | false =>
        have hg0 : g = zeroRq := hg.symm.trans (get_no hgo).1
        have HG0 := Lib.hid hg0
        rw [(get_no hgo).2, hg]
        clear hg hg0 hgo
        unfold rqV
        go_upto_region 13 with fail
        have hQ := RqAt.new w12 g
        have HA := Lib.hid (HM12.out.alloc (.cells #[.int .u8 g.kind, .int .u8 g.flags, .int .u64 g.fd, .int .u64 g.pos, .int .u64 g.size, .string g.path, .string g.dst, .string g.data] 24))
        generalize w12.alloc (.cells #[.int .u8 g.kind, .int .u8 g.flags, .int .u64 g.fd, .int .u64 g.pos, .int .u64 g.size, .string g.path, .string g.dst, .string g.data] 24) = w13 at hQ HA ⊢
        generalize w12.heap.size = b13 at hQ ⊢
        obtain ⟨q0, q1, q2, q3, q4, q5, q6, q7, _⟩ := hQ
        have hgz : decide (g = zeroRq) = true := decide_eq_true HG0.out
        go_wp2_with fail
        refine (works_any _).mono ?_
        rintro e w14 ⟨rfl, hN14⟩
        go_wp2_with fail
        go_ret
        exact ⟨rfl, (HA.out.trans hN14).b⟩
      | true =>
        have hga := get_ok hgo
        rw [hg] at hga
        have hpg : putQ g = zs := by rw [putQ, if_pos hga.1]; exact hga.2
        have hge : getE zs = 0 := by unfold getE; rw [if_pos hgo]
        rw [hge, hg]
        have HMG := Lib.hid (fun W => may_any g HSG.out W)
        rw [hga.1] at HMG
        have HPG := Lib.hid (fun W => putq_any g HSG.out W)
        rw [hpg] at HPG
        unfold rqV at HMG HPG ⊢
        clear hg hga hpg hge hgo
        go_upto_region 13 with fail
        have hQ := RqAt.new w12 g
        have HA := Lib.hid (HM12.out.alloc (.cells #[.int .u8 g.kind, .int .u8 g.flags, .int .u64 g.fd, .int .u64 g.pos, .int .u64 g.size, .string g.path, .string g.dst, .string g.data] 24))
        generalize w12.alloc (.cells #[.int .u8 g.kind, .int .u8 g.flags, .int .u64 g.fd, .int .u64 g.pos, .int .u64 g.size, .string g.path, .string g.dst, .string g.data] 24) = w13 at hQ HA ⊢
        generalize w12.heap.size = b13 at hQ ⊢
        have HQ := Lib.hid hQ
        clear hQ
        go_upto_region 15 with fail
        have HCVZ := Lib.hid (fun (X : World) (h : Nw w13 X) => cv8 (w := X) cap HL.out (HIW.out X (HA.out.trans h)))
        refine wp_region_noPanic ?_
        refine wp_region_held_drew (S := (fun w' => RqAt w' b13 g ∧ Nw w13 w')) (by kernel_rfl) ?_ (fun hHeld => ?_)
        · exact ⟨HQ.out.nw Nw.refl.drew, Nw.refl.drew⟩
        refine takeD (i := 0) (v := ?_) 124 rfl rfl ?_ ?_ ?_ (fun _ _ _ h => h) ?_ (by assumption) ?_
        rotate_left
        · kernel_rfl
        · kernel_rfl
        · kernel_rfl
        · refine Or.inl (And.intro ?_ ?_)
          · rfl
          · intro w hSw
            obtain ⟨⟨q0, q1, q2, q3, q4, q5, q6, q7, _⟩, eN⟩ := hSw
            first | (go_simp; done) | (go_simp; with_reducible rfl)
        simp only [List.setIfInBounds_toArray, List.set_cons_zero, List.set_cons_succ]
        refine wpAnyH_ready (rs := [1]) (by kernel_rfl) (by simp) ?_
        refine AllReadyH.cons rfl (fun K hK => ?_) AllReadyH.nil
        go_simp
        go_wp2_with (go_at_call 13; (with_reducible refine (HMG.out _).mono ?_); rintro e y1 ⟨rfl, kx⟩)
        refine hK.out _ _ ?_ (fun hHeld2 => ?_)
        · exact ⟨hHeld.1.nw kx, hHeld.2.trans kx⟩
        have hHeld := hHeld2
        clear hHeld2 hK K
        refine takeD (i := 2) (v := ?_) 126 rfl rfl ?_ ?_ ?_ (fun _ _ _ h => h) ?_ (by assumption) ?_
        rotate_left
        · kernel_rfl
        · kernel_rfl
        · kernel_rfl
        · refine Or.inl (And.intro ?_ ?_)
          · rfl
          · intro w hSw
            obtain ⟨⟨q0, q1, q2, q3, q4, q5, q6, q7, _⟩, eN⟩ := hSw
            first | (go_simp; done) | (go_simp; with_reducible rfl)
        simp only [List.setIfInBounds_toArray, List.set_cons_zero, List.set_cons_succ]
        refine takeD (i := 3) (v := ?_) 127 rfl rfl ?_ ?_ ?_ (fun _ _ _ h => h) ?_ (by assumption) ?_
        rotate_left
        · kernel_rfl
        · kernel_rfl
        · kernel_rfl
        · refine Or.inl (And.intro ?_ ?_)
          · rfl
          · intro w hSw
            obtain ⟨⟨q0, q1, q2, q3, q4, q5, q6, q7, _⟩, eN⟩ := hSw
            first | (go_simp; done) | (go_simp; with_reducible rfl)
        simp only [List.setIfInBounds_toArray, List.set_cons_zero, List.set_cons_succ]
        refine takeD (i := 6) (v := ?_) 130 rfl rfl ?_ ?_ ?_ (fun _ _ _ h => h) ?_ (by assumption) ?_
        rotate_left
        · kernel_rfl
        · kernel_rfl
        · kernel_rfl
        · refine Or.inl (And.intro ?_ ?_)
          · rfl
          · intro w hSw
            obtain ⟨⟨q0, q1, q2, q3, q4, q5, q6, q7, _⟩, eN⟩ := hSw
            first | (go_simp; done) | (go_simp; with_reducible rfl)
        simp only [List.setIfInBounds_toArray, List.set_cons_zero, List.set_cons_succ]
        refine takeD (i := 7) (v := ?_) 131 rfl rfl ?_ ?_ ?_ (fun _ _ _ h => h) ?_ (by assumption) ?_
        rotate_left
        · kernel_rfl
        · kernel_rfl
        · kernel_rfl
        · refine Or.inl (And.intro ?_ ?_)
          · rfl
          · intro w hSw
            obtain ⟨⟨q0, q1, q2, q3, q4, q5, q6, q7, _⟩, eN⟩ := hSw
            have hv1 := HCVZ.out w eN
            first | (go_simp; done) | (go_simp; with_reducible rfl)
        simp only [List.setIfInBounds_toArray, List.set_cons_zero, List.set_cons_succ]
        refine wpAnyH_ready (rs := [4]) (by kernel_rfl) (by simp) ?_
        refine AllReadyH.cons rfl (fun K hK => ?_) AllReadyH.nil
        go_simp
        go_wp2_with (go_at_call 15; (with_reducible refine (HPG.out _).mono ?_); intro e y4 h4; obtain ⟨a4, c4, n4, hn4, rfl, hI4, kx, _⟩ := OwnR.app (zs := []) (ys := zs) Nw.refl h4; have HC4 := Lib.hid (fun (X : World) (h : Nw y4 X) => cv8 (w := X) c4 hn4.symm (h.ints hI4)); clear hn4 h4 hI4)
        refine hK.out _ _ ?_ (fun hHeld2 => ?_)
        · exact ⟨hHeld.1.nw kx, hHeld.2.trans kx⟩
        have hHeld := hHeld2
        clear hHeld2 hK K
        refine wpAnyH_ready (rs := [5]) (by kernel_rfl) (by simp) ?_
        refine AllReadyH.cons rfl (fun K hK => ?_) AllReadyH.nil
        have hcv := HC4.out _ Nw.refl
        simp only [List.nil_append] at hcv
        go_simp
        refine hK.out _ _ ?_ (fun hHeld2 => ?_)
        · exact hHeld
        have hHeld := hHeld2
        clear hHeld2 hK K hcv
        refine takeD (i := 8) (v := ?_) 132 rfl rfl ?_ ?_ ?_ (fun _ _ _ h => h) ?_ (by assumption) ?_
        rotate_left
        · kernel_rfl
        · kernel_rfl
        · kernel_rfl
        · refine Or.inl (And.intro ?_ ?_)
          · rfl
          · intro w hSw
            obtain ⟨⟨q0, q1, q2, q3, q4, q5, q6, q7, _⟩, eN⟩ := hSw
            first | (go_simp; done) | (go_simp; with_reducible rfl)
        simp only [List.setIfInBounds_toArray, List.set_cons_zero, List.set_cons_succ]
        refine takeD (i := 9) (v := ?_) 133 rfl rfl ?_ ?_ ?_ (fun _ _ _ h => h) ?_ (by assumption) ?_
        rotate_left
        · kernel_rfl
        · kernel_rfl
        · kernel_rfl
        · refine Or.inl (And.intro ?_ ?_)
          · rfl
          · intro w hSw
            obtain ⟨⟨q0, q1, q2, q3, q4, q5, q6, q7, _⟩, eN⟩ := hSw
            first | (go_simp; done) | (go_simp; with_reducible rfl)
        simp only [List.setIfInBounds_toArray, List.set_cons_zero, List.set_cons_succ]
        refine takeD (i := 10) (v := ?_) 134 rfl rfl ?_ ?_ ?_ (fun _ _ _ h => h) ?_ (by assumption) ?_
        rotate_left
        · kernel_rfl
        · kernel_rfl
        · kernel_rfl
        · refine Or.inl (And.intro ?_ ?_)
          · rfl
          · intro w hSw
            obtain ⟨⟨q0, q1, q2, q3, q4, q5, q6, q7, _⟩, eN⟩ := hSw
            first | (go_simp; done) | (go_simp; with_reducible rfl)
        simp only [List.setIfInBounds_toArray, List.set_cons_zero, List.set_cons_succ]
        refine wpAnyH_ready (rs := [11]) (by kernel_rfl) (by simp) ?_
        refine AllReadyH.cons rfl (fun K hK => ?_) AllReadyH.nil
        go_simp
        go_wp2_with (go_at_call 10; (with_reducible refine (works_any _).mono ?_); rintro e y11 ⟨rfl, kx⟩)
        refine hK.out _ _ ?_ (fun hHeld2 => ?_)
        · exact ⟨hHeld.1.nw kx, hHeld.2.trans kx⟩
        have hHeld := hHeld2
        clear hHeld2 hK K
        refine takeD (i := 12) (v := ?_) 136 rfl rfl ?_ ?_ ?_ (fun _ _ _ h => h) ?_ (by assumption) ?_
        rotate_left
        · kernel_rfl
        · kernel_rfl
        · kernel_rfl
        · refine Or.inl (And.intro ?_ ?_)
          · rfl
          · intro w hSw
            obtain ⟨⟨q0, q1, q2, q3, q4, q5, q6, q7, _⟩, eN⟩ := hSw
            first | (go_simp; done) | (go_simp; with_reducible rfl)
        simp only [List.setIfInBounds_toArray, List.set_cons_zero, List.set_cons_succ]
        refine takeD (i := 13) (v := ?_) 8 rfl rfl ?_ ?_ ?_ (fun _ _ _ h => h) ?_ (by assumption) ?_
        rotate_left
        · kernel_rfl
        · kernel_rfl
        · kernel_rfl
        · refine Or.inl (And.intro ?_ ?_)
          · rfl
          · intro w hSw
            obtain ⟨⟨q0, q1, q2, q3, q4, q5, q6, q7, _⟩, eN⟩ := hSw
            first | (go_simp; done) | (go_simp; with_reducible rfl)
        simp only [List.setIfInBounds_toArray, List.set_cons_zero, List.set_cons_succ]
        refine wpAnyH_done (by kernel_rfl) ?_ _
        refine NoPanic.normal ?_
        go_wp2_with fail
        go_ret
        exact ⟨rfl, (HA.out.trans hHeld.2).b⟩
    | true =>
      rw [hmo2] at HMO
      have hss : decide (putQ o = ps) = d := by rw [← hd]; exact decide_eq_decide.mpr (iff_of_eq (HPS.out o HO.out hmo2))
      have HSS := Lib.hid (str_same (putQ_byte HO.out) HPB.out hss)
      clear hss
      clear hd hmo2
      refine wp_region_noPanic ?_
      refine wp_region_held_drew (S := (fun w' => RqAt w' w.heap.size r ∧ RqAt w' (w.heap.size + 1) o ∧ Nw w11 w')) (by kernel_rfl) ?_ (fun hHeld => ?_)
      · exact ⟨HR11.out.nw Nw.refl.drew, HO11.out.nw Nw.refl.drew, Nw.refl.drew⟩
      refine takeD (i := 0) (v := ?_) 85 rfl rfl ?_ ?_ ?_ (fun _ _ _ h => h) ?_ (by assumption) ?_
      rotate_left
      · kernel_rfl
      · kernel_rfl
      · kernel_rfl
      · refine Or.inl (And.intro ?_ ?_)
        · rfl
        · intro w hSw
          obtain ⟨⟨c0, c1, c2, c3, c4, c5, c6, c7, _⟩, ⟨q0, q1, q2, q3, q4, q5, q6, q7, _⟩, eN⟩ := hSw
          first | (go_simp; done) | (go_simp; with_reducible rfl)
      simp only [List.setIfInBounds_toArray, List.set_cons_zero, List.set_cons_succ]
      refine takeD (i := 1) (v := ?_) 86 rfl rfl ?_ ?_ ?_ (fun _ _ _ h => h) ?_ (by assumption) ?_
      rotate_left
      · kernel_rfl
      · kernel_rfl
      · kernel_rfl
      · refine Or.inl (And.intro ?_ ?_)
        · rfl
        · intro w hSw
          obtain ⟨⟨c0, c1, c2, c3, c4, c5, c6, c7, _⟩, ⟨q0, q1, q2, q3, q4, q5, q6, q7, _⟩, eN⟩ := hSw
          first | (go_simp; done) | (go_simp; with_reducible rfl)
      simp only [List.setIfInBounds_toArray, List.set_cons_zero, List.set_cons_succ]
      refine takeD (i := 2) (v := ?_) 87 rfl rfl ?_ ?_ ?_ (fun _ _ _ h => h) ?_ (by assumption) ?_
      rotate_left
      · kernel_rfl
      · kernel_rfl
      · kernel_rfl
      · refine Or.inl (And.intro ?_ ?_)
        · rfl
        · intro w hSw
          obtain ⟨⟨c0, c1, c2, c3, c4, c5, c6, c7, _⟩, ⟨q0, q1, q2, q3, q4, q5, q6, q7, _⟩, eN⟩ := hSw
          first | (go_simp; done) | (go_simp; with_reducible rfl)
      simp only [List.setIfInBounds_toArray, List.set_cons_zero, List.set_cons_succ]
      refine takeD (i := 3) (v := ?_) 88 rfl rfl ?_ ?_ ?_ (fun _ _ _ h => h) ?_ (by assumption) ?_
      rotate_left
      · kernel_rfl
      · kernel_rfl
      · kernel_rfl
      · refine Or.inl (And.intro ?_ ?_)
        · rfl
        · intro w hSw
          obtain ⟨⟨c0, c1, c2, c3, c4, c5, c6, c7, _⟩, ⟨q0, q1, q2, q3, q4, q5, q6, q7, _⟩, eN⟩ := hSw
          first | (go_simp; done) | (go_simp; with_reducible rfl)
      simp only [List.setIfInBounds_toArray, List.set_cons_zero, List.set_cons_succ]
      refine takeD (i := 4) (v := ?_) 89 rfl rfl ?_ ?_ ?_ (fun _ _ _ h => h) ?_ (by assumption) ?_
      rotate_left
      · kernel_rfl
      · kernel_rfl
      · kernel_rfl
      · refine Or.inl (And.intro ?_ ?_)
        · rfl
        · intro w hSw
          obtain ⟨⟨c0, c1, c2, c3, c4, c5, c6, c7, _⟩, ⟨q0, q1, q2, q3, q4, q5, q6, q7, _⟩, eN⟩ := hSw
          first | (go_simp; done) | (go_simp; with_reducible rfl)
      simp only [List.setIfInBounds_toArray, List.set_cons_zero, List.set_cons_succ]
      refine takeD (i := 5) (v := ?_) 90 rfl rfl ?_ ?_ ?_ (fun _ _ _ h => h) ?_ (by assumption) ?_
      rotate_left
      · kernel_rfl
      · kernel_rfl
      · kernel_rfl
      · refine Or.inl (And.intro ?_ ?_)
        · rfl
        · intro w hSw
          obtain ⟨⟨c0, c1, c2, c3, c4, c5, c6, c7, _⟩, ⟨q0, q1, q2, q3, q4, q5, q6, q7, _⟩, eN⟩ := hSw
          first | (go_simp; done) | (go_simp; with_reducible rfl)
      simp only [List.setIfInBounds_toArray, List.set_cons_zero, List.set_cons_succ]
      refine takeD (i := 6) (v := ?_) 91 rfl rfl ?_ ?_ ?_ (fun _ _ _ h => h) ?_ (by assumption) ?_
      rotate_left
      · kernel_rfl
      · kernel_rfl
      · kernel_rfl
      · refine Or.inl (And.intro ?_ ?_)
        · rfl
        · intro w hSw
          obtain ⟨⟨c0, c1, c2, c3, c4, c5, c6, c7, _⟩, ⟨q0, q1, q2, q3, q4, q5, q6, q7, _⟩, eN⟩ := hSw
          first | (go_simp; done) | (go_simp; with_reducible rfl)
      simp only [List.setIfInBounds_toArray, List.set_cons_zero, List.set_cons_succ]
      refine takeD (i := 7) (v := ?_) 92 rfl rfl ?_ ?_ ?_ (fun _ _ _ h => h) ?_ (by assumption) ?_
      rotate_left
      · kernel_rfl
      · kernel_rfl
      · kernel_rfl
      · refine Or.inl (And.intro ?_ ?_)
        · rfl
        · intro w hSw
          obtain ⟨⟨c0, c1, c2, c3, c4, c5, c6, c7, _⟩, ⟨q0, q1, q2, q3, q4, q5, q6, q7, _⟩, eN⟩ := hSw
          first | (go_simp; done) | (go_simp; with_reducible rfl)
      simp only [List.setIfInBounds_toArray, List.set_cons_zero, List.set_cons_succ]
      refine wpAnyH_ready (rs := [8]) (by kernel_rfl) (by simp) ?_
      refine AllReadyH.cons rfl (fun K hK => ?_) AllReadyH.nil
      go_simp
      go_wp2_with (go_at_call 13; (with_reducible refine (HMO.out _).mono ?_); rintro e y8 ⟨rfl, kx⟩)
      refine hK.out _ _ ?_ (fun hHeld2 => ?_)
      · exact ⟨hHeld.1.nw kx, hHeld.2.1.nw kx, hHeld.2.2.trans kx⟩
      have hHeld := hHeld2
      clear hHeld2 hK K
      refine takeD (i := 9) (v := ?_) 94 rfl rfl ?_ ?_ ?_ (fun _ _ _ h => h) ?_ (by assumption) ?_
      rotate_left
      · kernel_rfl
      · kernel_rfl
      · kernel_rfl
      · refine Or.inl (And.intro ?_ ?_)
        · rfl
        · intro w hSw
          obtain ⟨⟨c0, c1, c2, c3, c4, c5, c6, c7, _⟩, ⟨q0, q1, q2, q3, q4, q5, q6, q7, _⟩, eN⟩ := hSw
          first | (go_simp; done) | (go_simp; with_reducible rfl)
      simp only [List.setIfInBounds_toArray, List.set_cons_zero, List.set_cons_succ]
      refine takeD (i := 10) (v := ?_) 95 rfl rfl ?_ ?_ ?_ (fun _ _ _ h => h) ?_ (by assumption) ?_
      rotate_left
      · kernel_rfl
      · kernel_rfl
      · kernel_rfl
      · refine Or.inl (And.intro ?_ ?_)
        · rfl
        · intro w hSw
          obtain ⟨⟨c0, c1, c2, c3, c4, c5, c6, c7, _⟩, ⟨q0, q1, q2, q3, q4, q5, q6, q7, _⟩, eN⟩ := hSw
          first | (go_simp; done) | (go_simp; with_reducible rfl)
      simp only [List.setIfInBounds_toArray, List.set_cons_zero, List.set_cons_succ]
      refine takeD (i := 13) (v := ?_) 98 rfl rfl ?_ ?_ ?_ (fun _ _ _ h => h) ?_ (by assumption) ?_
      rotate_left
      · kernel_rfl
      · kernel_rfl
      · kernel_rfl
      · refine Or.inl (And.intro ?_ ?_)
        · rfl
        · intro w hSw
          obtain ⟨⟨c0, c1, c2, c3, c4, c5, c6, c7, _⟩, ⟨q0, q1, q2, q3, q4, q5, q6, q7, _⟩, eN⟩ := hSw
          first | (go_simp; done) | (go_simp; with_reducible rfl)
      simp only [List.setIfInBounds_toArray, List.set_cons_zero, List.set_cons_succ]
      refine takeD (i := 14) (v := ?_) 99 rfl rfl ?_ ?_ ?_ (fun _ _ _ h => h) ?_ (by assumption) ?_
      rotate_left
      · kernel_rfl
      · kernel_rfl
      · kernel_rfl
      · refine Or.inl (And.intro ?_ ?_)
        · rfl
        · intro w hSw
          obtain ⟨⟨c0, c1, c2, c3, c4, c5, c6, c7, _⟩, ⟨q0, q1, q2, q3, q4, q5, q6, q7, _⟩, eN⟩ := hSw
          have hv1 := HCVB.out w eN
          first | (go_simp; done) | (go_simp; with_reducible rfl)
      simp only [List.setIfInBounds_toArray, List.set_cons_zero, List.set_cons_succ]
      refine takeD (i := 16) (v := ?_) 101 rfl rfl ?_ ?_ ?_ (fun _ _ _ h => h) ?_ (by assumption) ?_
      rotate_left
      · kernel_rfl
      · kernel_rfl
      · kernel_rfl
      · refine Or.inl (And.intro ?_ ?_)
        · rfl
        · intro w hSw
          obtain ⟨⟨c0, c1, c2, c3, c4, c5, c6, c7, _⟩, ⟨q0, q1, q2, q3, q4, q5, q6, q7, _⟩, eN⟩ := hSw
          first | (go_simp; done) | (go_simp; with_reducible rfl)
      simp only [List.setIfInBounds_toArray, List.set_cons_zero, List.set_cons_succ]
      refine takeD (i := 17) (v := ?_) 102 rfl rfl ?_ ?_ ?_ (fun _ _ _ h => h) ?_ (by assumption) ?_
      rotate_left
      · kernel_rfl
      · kernel_rfl
      · kernel_rfl
      · refine Or.inl (And.intro ?_ ?_)
        · rfl
        · intro w hSw
          obtain ⟨⟨c0, c1, c2, c3, c4, c5, c6, c7, _⟩, ⟨q0, q1, q2, q3, q4, q5, q6, q7, _⟩, eN⟩ := hSw
          first | (go_simp; done) | (go_simp; with_reducible rfl)
      simp only [List.setIfInBounds_toArray, List.set_cons_zero, List.set_cons_succ]
      refine takeD (i := 18) (v := ?_) 103 rfl rfl ?_ ?_ ?_ (fun _ _ _ h => h) ?_ (by assumption) ?_
      rotate_left
      · kernel_rfl
      · kernel_rfl
      · kernel_rfl
      · refine Or.inl (And.intro ?_ ?_)
        · rfl
        · intro w hSw
          obtain ⟨⟨c0, c1, c2, c3, c4, c5, c6, c7, _⟩, ⟨q0, q1, q2, q3, q4, q5, q6, q7, _⟩, eN⟩ := hSw
          have hd2 := HD.out
          first | (go_simp; done) | (go_simp; with_reducible rfl)
      simp only [List.setIfInBounds_toArray, List.set_cons_zero, List.set_cons_succ]
      refine wpAnyH_ready (rs := [11]) (by kernel_rfl) (by simp) ?_
      refine AllReadyH.cons rfl (fun K hK => ?_) AllReadyH.nil
      go_simp
      go_wp2_with (go_at_call 15; (with_reducible refine (HPO.out _).mono ?_); intro e y4 h4; obtain ⟨a4, c4, n4, hn4, rfl, hI4, kx, _⟩ := OwnR.app (zs := []) (ys := putQ o) Nw.refl h4; have HC4 := Lib.hid (fun (X : World) (h : Nw y4 X) => cv8 (w := X) c4 hn4.symm (h.ints hI4)); clear hn4 h4 hI4)
      refine hK.out _ _ ?_ (fun hHeld2 => ?_)
      · exact ⟨hHeld.1.nw kx, hHeld.2.1.nw kx, hHeld.2.2.trans kx⟩
      have hHeld := hHeld2
      clear hHeld2 hK K
      refine wpAnyH_ready (rs := [12]) (by kernel_rfl) (by simp) ?_
      refine AllReadyH.cons rfl (fun K hK => ?_) AllReadyH.nil
      have hcv := HC4.out _ Nw.refl
      simp only [List.nil_append] at hcv
      go_simp
      refine hK.out _ _ ?_ (fun hHeld2 => ?_)
      · exact hHeld
      have hHeld := hHeld2
      clear hHeld2 hK K hcv
      refine takeD (i := 15) (v := ?_) 100 rfl rfl ?_ ?_ ?_ (fun _ _ _ h => h) ?_ (by assumption) ?_
      rotate_left
      · kernel_rfl
      · kernel_rfl
      · kernel_rfl
      · refine Or.inl (And.intro ?_ ?_)
        · rfl
        · intro w hSw
          obtain ⟨⟨c0, c1, c2, c3, c4, c5, c6, c7, _⟩, ⟨q0, q1, q2, q3, q4, q5, q6, q7, _⟩, eN⟩ := hSw
          have hs2 := HSS.out
          first | (go_simp; done) | (go_simp; with_reducible rfl)
      simp only [List.setIfInBounds_toArray, List.set_cons_zero, List.set_cons_succ]
      refine takeD (i := 19) (v := ?_) 104 rfl rfl ?_ ?_ ?_ (fun _ _ _ h => h) ?_ (by assumption) ?_
      rotate_left
      · kernel_rfl
      · kernel_rfl
      · kernel_rfl
      · refine Or.inl (And.intro ?_ ?_)
        · rfl
        · intro w hSw
          obtain ⟨⟨c0, c1, c2, c3, c4, c5, c6, c7, _⟩, ⟨q0, q1, q2, q3, q4, q5, q6, q7, _⟩, eN⟩ := hSw
          have hdd : (d != d) = false := bne_self_eq_false d
          first | (go_simp; done) | (go_simp; with_reducible rfl)
      simp only [List.setIfInBounds_toArray, List.set_cons_zero, List.set_cons_succ]
      refine takeD (i := 20) (v := ?_) 105 rfl rfl ?_ ?_ ?_ (fun _ _ _ h => h) ?_ (by assumption) ?_
      rotate_left
      · kernel_rfl
      · kernel_rfl
      · kernel_rfl
      · refine Or.inl (And.intro ?_ ?_)
        · rfl
        · intro w hSw
          obtain ⟨⟨c0, c1, c2, c3, c4, c5, c6, c7, _⟩, ⟨q0, q1, q2, q3, q4, q5, q6, q7, _⟩, eN⟩ := hSw
          first | (go_simp; done) | (go_simp; with_reducible rfl)
      simp only [List.setIfInBounds_toArray, List.set_cons_zero, List.set_cons_succ]
      refine takeD (i := 21) (v := ?_) 106 rfl rfl ?_ ?_ ?_ (fun _ _ _ h => h) ?_ (by assumption) ?_
      rotate_left
      · kernel_rfl
      · kernel_rfl
      · kernel_rfl
      · refine Or.inl (And.intro ?_ ?_)
        · rfl
        · intro w hSw
          obtain ⟨⟨c0, c1, c2, c3, c4, c5, c6, c7, _⟩, ⟨q0, q1, q2, q3, q4, q5, q6, q7, _⟩, eN⟩ := hSw
          first | (go_simp; done) | (go_simp; with_reducible rfl)
      simp only [List.setIfInBounds_toArray, List.set_cons_zero, List.set_cons_succ]
      refine wpAnyH_done (by kernel_rfl) ?_ _
      refine NoPanic.normal ?_
      have HX := Lib.hid (HN2.out.trans (HA11.out.trans hHeld.2.2))
      go_wp2_with fail
      refine (get_any a len cap zs HL.out (by omega) HZ.out _ (HIW.out _ HX.out)).mono ?_
      rintro e w12 ⟨rfl, hN12⟩
      have HM12 := Lib.hid (HX.out.trans hN12)
      clear hN12
      obtain ⟨g, hg⟩ : ∃ g, getQ zs = g := ⟨_, rfl⟩
      have hsg : smallRq g := hg ▸ small_getQ HZ.out
      have HSG := Lib.hid hsg
      clear hsg
      cases hgo : getOk zs with
      | false =>
        have hg0 : g = zeroRq := hg.symm.trans (get_no hgo).1
        have HG0 := Lib.hid hg0
        rw [(get_no hgo).2, hg]
        clear hg hg0 hgo
        unfold rqV
        go_upto_region 13 with fail
        have hQ := RqAt.new w12 g
        have HA := Lib.hid (HM12.out.alloc (.cells #[.int .u8 g.kind, .int .u8 g.flags, .int .u64 g.fd, .int .u64 g.pos, .int .u64 g.size, .string g.path, .string g.dst, .string g.data] 24))
        generalize w12.alloc (.cells #[.int .u8 g.kind, .int .u8 g.flags, .int .u64 g.fd, .int .u64 g.pos, .int .u64 g.size, .string g.path, .string g.dst, .string g.data] 24) = w13 at hQ HA ⊢
        generalize w12.heap.size = b13 at hQ ⊢
        obtain ⟨q0, q1, q2, q3, q4, q5, q6, q7, _⟩ := hQ
        have hgz : decide (g = zeroRq) = true := decide_eq_true HG0.out
        go_wp2_with fail
        refine (works_any _).mono ?_
        rintro e w14 ⟨rfl, hN14⟩
        go_wp2_with fail
        go_ret
        exact ⟨rfl, (HA.out.trans hN14).b⟩
      | true =>
        have hga := get_ok hgo
        rw [hg] at hga
        have hpg : putQ g = zs := by rw [putQ, if_pos hga.1]; exact hga.2
        have hge : getE zs = 0 := by unfold getE; rw [if_pos hgo]
        rw [hge, hg]
        have HMG := Lib.hid (fun W => may_any g HSG.out W)
        rw [hga.1] at HMG
        have HPG := Lib.hid (fun W => putq_any g HSG.out W)
        rw [hpg] at HPG
        unfold rqV at HMG HPG ⊢
        clear hg hga hpg hge hgo
        go_upto_region 13 with fail
        have hQ := RqAt.new w12 g
        have HA := Lib.hid (HM12.out.alloc (.cells #[.int .u8 g.kind, .int .u8 g.flags, .int .u64 g.fd, .int .u64 g.pos, .int .u64 g.size, .string g.path, .string g.dst, .string g.data] 24))
        generalize w12.alloc (.cells #[.int .u8 g.kind, .int .u8 g.flags, .int .u64 g.fd, .int .u64 g.pos, .int .u64 g.size, .string g.path, .string g.dst, .string g.data] 24) = w13 at hQ HA ⊢
        generalize w12.heap.size = b13 at hQ ⊢
        have HQ := Lib.hid hQ
        clear hQ
        go_upto_region 15 with fail
        have HCVZ := Lib.hid (fun (X : World) (h : Nw w13 X) => cv8 (w := X) cap HL.out (HIW.out X (HA.out.trans h)))
        refine wp_region_noPanic ?_
        refine wp_region_held_drew (S := (fun w' => RqAt w' b13 g ∧ Nw w13 w')) (by kernel_rfl) ?_ (fun hHeld => ?_)
        · exact ⟨HQ.out.nw Nw.refl.drew, Nw.refl.drew⟩
        refine takeD (i := 0) (v := ?_) 124 rfl rfl ?_ ?_ ?_ (fun _ _ _ h => h) ?_ (by assumption) ?_
        rotate_left
        · kernel_rfl
        · kernel_rfl
        · kernel_rfl
        · refine Or.inl (And.intro ?_ ?_)
          · rfl
          · intro w hSw
            obtain ⟨⟨q0, q1, q2, q3, q4, q5, q6, q7, _⟩, eN⟩ := hSw
            first | (go_simp; done) | (go_simp; with_reducible rfl)
        simp only [List.setIfInBounds_toArray, List.set_cons_zero, List.set_cons_succ]
        refine wpAnyH_ready (rs := [1]) (by kernel_rfl) (by simp) ?_
        refine AllReadyH.cons rfl (fun K hK => ?_) AllReadyH.nil
        go_simp
        go_wp2_with (go_at_call 13; (with_reducible refine (HMG.out _).mono ?_); rintro e y1 ⟨rfl, kx⟩)
        refine hK.out _ _ ?_ (fun hHeld2 => ?_)
        · exact ⟨hHeld.1.nw kx, hHeld.2.trans kx⟩
        have hHeld := hHeld2
        clear hHeld2 hK K
        refine takeD (i := 2) (v := ?_) 126 rfl rfl ?_ ?_ ?_ (fun _ _ _ h => h) ?_ (by assumption) ?_
        rotate_left
        · kernel_rfl
        · kernel_rfl
        · kernel_rfl
        · refine Or.inl (And.intro ?_ ?_)
          · rfl
          · intro w hSw
            obtain ⟨⟨q0, q1, q2, q3, q4, q5, q6, q7, _⟩, eN⟩ := hSw
            first | (go_simp; done) | (go_simp; with_reducible rfl)
        simp only [List.setIfInBounds_toArray, List.set_cons_zero, List.set_cons_succ]
        refine takeD (i := 3) (v := ?_) 127 rfl rfl ?_ ?_ ?_ (fun _ _ _ h => h) ?_ (by assumption) ?_
        rotate_left
        · kernel_rfl
        · kernel_rfl
        · kernel_rfl
        · refine Or.inl (And.intro ?_ ?_)
          · rfl
          · intro w hSw
            obtain ⟨⟨q0, q1, q2, q3, q4, q5, q6, q7, _⟩, eN⟩ := hSw
            first | (go_simp; done) | (go_simp; with_reducible rfl)
        simp only [List.setIfInBounds_toArray, List.set_cons_zero, List.set_cons_succ]
        refine takeD (i := 6) (v := ?_) 130 rfl rfl ?_ ?_ ?_ (fun _ _ _ h => h) ?_ (by assumption) ?_
        rotate_left
        · kernel_rfl
        · kernel_rfl
        · kernel_rfl
        · refine Or.inl (And.intro ?_ ?_)
          · rfl
          · intro w hSw
            obtain ⟨⟨q0, q1, q2, q3, q4, q5, q6, q7, _⟩, eN⟩ := hSw
            first | (go_simp; done) | (go_simp; with_reducible rfl)
        simp only [List.setIfInBounds_toArray, List.set_cons_zero, List.set_cons_succ]
        refine takeD (i := 7) (v := ?_) 131 rfl rfl ?_ ?_ ?_ (fun _ _ _ h => h) ?_ (by assumption) ?_
        rotate_left
        · kernel_rfl
        · kernel_rfl
        · kernel_rfl
        · refine Or.inl (And.intro ?_ ?_)
          · rfl
          · intro w hSw
            obtain ⟨⟨q0, q1, q2, q3, q4, q5, q6, q7, _⟩, eN⟩ := hSw
            have hv1 := HCVZ.out w eN
            first | (go_simp; done) | (go_simp; with_reducible rfl)
        simp only [List.setIfInBounds_toArray, List.set_cons_zero, List.set_cons_succ]
        refine wpAnyH_ready (rs := [4]) (by kernel_rfl) (by simp) ?_
        refine AllReadyH.cons rfl (fun K hK => ?_) AllReadyH.nil
        go_simp
        go_wp2_with (go_at_call 15; (with_reducible refine (HPG.out _).mono ?_); intro e y4 h4; obtain ⟨a4, c4, n4, hn4, rfl, hI4, kx, _⟩ := OwnR.app (zs := []) (ys := zs) Nw.refl h4; have HC4 := Lib.hid (fun (X : World) (h : Nw y4 X) => cv8 (w := X) c4 hn4.symm (h.ints hI4)); clear hn4 h4 hI4)
        refine hK.out _ _ ?_ (fun hHeld2 => ?_)
        · exact ⟨hHeld.1.nw kx, hHeld.2.trans kx⟩
        have hHeld := hHeld2
        clear hHeld2 hK K
        refine wpAnyH_ready (rs := [5]) (by kernel_rfl) (by simp) ?_
        refine AllReadyH.cons rfl (fun K hK => ?_) AllReadyH.nil
        have hcv := HC4.out _ Nw.refl
        simp only [List.nil_append] at hcv
        go_simp
        refine hK.out _ _ ?_ (fun hHeld2 => ?_)
        · exact hHeld
        have hHeld := hHeld2
        clear hHeld2 hK K hcv
        refine takeD (i := 8) (v := ?_) 132 rfl rfl ?_ ?_ ?_ (fun _ _ _ h => h) ?_ (by assumption) ?_
        rotate_left
        · kernel_rfl
        · kernel_rfl
        · kernel_rfl
        · refine Or.inl (And.intro ?_ ?_)
          · rfl
          · intro w hSw
            obtain ⟨⟨q0, q1, q2, q3, q4, q5, q6, q7, _⟩, eN⟩ := hSw
            first | (go_simp; done) | (go_simp; with_reducible rfl)
        simp only [List.setIfInBounds_toArray, List.set_cons_zero, List.set_cons_succ]
        refine takeD (i := 9) (v := ?_) 133 rfl rfl ?_ ?_ ?_ (fun _ _ _ h => h) ?_ (by assumption) ?_
        rotate_left
        · kernel_rfl
        · kernel_rfl
        · kernel_rfl
        · refine Or.inl (And.intro ?_ ?_)
          · rfl
          · intro w hSw
            obtain ⟨⟨q0, q1, q2, q3, q4, q5, q6, q7, _⟩, eN⟩ := hSw
            first | (go_simp; done) | (go_simp; with_reducible rfl)
        simp only [List.setIfInBounds_toArray, List.set_cons_zero, List.set_cons_succ]
        refine takeD (i := 10) (v := ?_) 134 rfl rfl ?_ ?_ ?_ (fun _ _ _ h => h) ?_ (by assumption) ?_
        rotate_left
        · kernel_rfl
        · kernel_rfl
        · kernel_rfl
        · refine Or.inl (And.intro ?_ ?_)
          · rfl
          · intro w hSw
            obtain ⟨⟨q0, q1, q2, q3, q4, q5, q6, q7, _⟩, eN⟩ := hSw
            first | (go_simp; done) | (go_simp; with_reducible rfl)
        simp only [List.setIfInBounds_toArray, List.set_cons_zero, List.set_cons_succ]
        refine wpAnyH_ready (rs := [11]) (by kernel_rfl) (by simp) ?_
        refine AllReadyH.cons rfl (fun K hK => ?_) AllReadyH.nil
        go_simp
        go_wp2_with (go_at_call 10; (with_reducible refine (works_any _).mono ?_); rintro e y11 ⟨rfl, kx⟩)
        refine hK.out _ _ ?_ (fun hHeld2 => ?_)
        · exact ⟨hHeld.1.nw kx, hHeld.2.trans kx⟩
        have hHeld := hHeld2
        clear hHeld2 hK K
        refine takeD (i := 12) (v := ?_) 136 rfl rfl ?_ ?_ ?_ (fun _ _ _ h => h) ?_ (by assumption) ?_
        rotate_left
        · kernel_rfl
        · kernel_rfl
        · kernel_rfl
        · refine Or.inl (And.intro ?_ ?_)
          · rfl
          · intro w hSw
            obtain ⟨⟨q0, q1, q2, q3, q4, q5, q6, q7, _⟩, eN⟩ := hSw
            first | (go_simp; done) | (go_simp; with_reducible rfl)
        simp only [List.setIfInBounds_toArray, List.set_cons_zero, List.set_cons_succ]
        refine takeD (i := 13) (v := ?_) 8 rfl rfl ?_ ?_ ?_ (fun _ _ _ h => h) ?_ (by assumption) ?_
        rotate_left
        · kernel_rfl
        · kernel_rfl
        · kernel_rfl
        · refine Or.inl (And.intro ?_ ?_)
          · rfl
          · intro w hSw
            obtain ⟨⟨q0, q1, q2, q3, q4, q5, q6, q7, _⟩, eN⟩ := hSw
            first | (go_simp; done) | (go_simp; with_reducible rfl)
        simp only [List.setIfInBounds_toArray, List.set_cons_zero, List.set_cons_succ]
        refine wpAnyH_done (by kernel_rfl) ?_ _
        refine NoPanic.normal ?_
        go_wp2_with fail
        go_ret
        exact ⟨rfl, (HA.out.trans hHeld.2).b⟩

end Go.Proofs.Ytphcdndohdnolaa
