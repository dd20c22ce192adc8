/-
  THE WALK OF LockApart.
-/
import Derived.Test.YtdjncbfoecoedaaLkV
import Derived.Deep.RegionHeld3
import Derived.Deep.RegionHeldLaw
namespace Go.Proofs.Ytdjncbfoecoedaa
open Go.RowKit Go.Shelf
set_option linter.unusedVariables false

theorem apart_fit (H : Nat → List Int) : ∀ i, i < 70 → (apartS H i).q.length ≤ 1000000 := fun i _ => by rw [apart_q]; exact Nat.zero_le _
theorem apart_in (H : Nat → List Int) : ∀ i, i < 70 → ∀ y ∈ (apartS H i).q, 0 ≤ y ∧ y < 4 := fun i _ y hy => by rw [apart_q] at hy; cases hy
theorem takeD {P : Program} {ops : Array Oper} {Q : Exit → Act → World → Prop} {md : Region.Mode} {S : World → Prop} {i : Nat} {oi : Oper} {v : Value} {fuel : Nat} {listed : Array Bool} {a : Act} {w : World} (d : Nat) (hi : ops[i]? = some oi) (hd : oi.dst = some d)
    (hs : Region.noSelect ops = true) (hf : Region.free md ops listed i = true) (hr : (Region.ready md ops listed).contains i = true)
    (hQ : ∀ c a w, Q (.panic c) (a.put oi.dst v) w → Q (.panic c) a w) (hy : YieldsIf P ops S oi v a) (hS : S w)
    (h : wpAnyH P md ops Q S fuel (listed.setIfInBounds i true) { a with tmps := a.tmps.setIfInBounds d v } w) : wpAnyH P md ops Q S (fuel + 1) listed a w := by
  refine wpAnyH_take hi hs hf hr hQ hy hS ?_
  rw [hd]; exact h
theorem wpList_append_qn {P : Program} (w : World) {ops : Array Oper} {rest : List Oper} {o : Oper} {a : Act} {Q : Exit → Act → World → Prop}
    (hg : o.guard = none) (s x : Operand) (t : TypeId) (hop : o.op = Op.call { callee := Callee.builtin Builtin.append, args := #[s, x], argTypes := #[t, t] })
    (e : TypeId) (i : TypeInfo) (h1 : P.underlying t = some (.slice e)) (h2 : P.info? e = some i) (h3 : i.zero = some (.int .i64 0)) (h4 : i.size = 1) (h5 : i.bytes = 8)
    (a0 : Option Addr) (c0 : Nat) (xs : List Int) (n m : Nat) (hn : xs.length = n) (hm : m = n + 1) (hs : a.eval s = .slice a0 n c0) (hq : Qu w a0 c0 xs) (hlen : n ≤ 1000000)
    (ad : Addr) (c : Nat) (y : Int) (hx : a.eval x = .slice (some ad) 1 c) (hc : w.cell? ad = some (.int .i64 y))
    (hK : ∀ a1 c1 w', Qu w' a1 c1 (xs ++ [y]) → UpO (QB a0) w w' → (∀ p, a1 = some p → QB a0 p.block ∨ w.heap.size ≤ p.block) → wpList P ops Q rest (a.put o.dst (.slice a1 m c1)) w') :
    wpList P ops Q (o :: rest) a w := by
  subst hm
  subst hn
  refine wpList_append_qu w hg s x t hop e i h1 h2 h3 h4 h5 a0 c0 xs hs hq hlen ad c y hx hc (fun a1 c1 w' k1 k2 k3 => ?_)
  have := hK a1 c1 w' k1 k2 k3
  rwa [show (xs ++ [y]).length = xs.length + 1 from by simp]
set_option maxRecDepth 100000 in
set_option maxHeartbeats 8000000 in
theorem walk_apart (a1 : Option Addr) (len1 cap1 : Nat) (zs : List Int) (hl : zs.length = len1) (hz : ∀ x ∈ zs, 0 ≤ x ∧ x ≤ 255) (u : Nat) (hu : u ≤ 255) (w : World) (hI : Ints w.heap.size .u8 w a1 zs) :
    Calls Try.prog 5 #[.slice a1 len1 cap1, .int .u8 u] w fun e w' => e = .returned (.bool true) ∧ Below w.heap.size w w' := by
  by_cases hbig : 100 < len1
  · clear hz hI hl
    go_enter Try.func5, Try.ntmps5
    go_wp2_with fail
    refine (works_any _).mono ?_
    rintro e w1 ⟨rfl, hN⟩
    go_wp2_with fail
    go_ret
    exact ⟨rfl, hN.b⟩
  obtain ⟨i0, hi0, hz0, hz1, hz2⟩ := info_parts8 info_int
  have HI := Lib.hid hI
  have HZ := Lib.hid hz
  have HL := Lib.hid hl
  clear hI hz hl
  go_enter Try.func5, Try.ntmps5
  go_wp2_with fail
  refine (new_yes 4 (by omega) (by omega) w).mono ?_
  rintro e w1 ⟨rfl, rfl⟩
  have HF0 := Lib.hid (fi_new w 49 42)
  go_wp2_with fail
  obtain ⟨t, ht⟩ : ∃ t, w.heap.size = t := ⟨_, rfl⟩
  rw [show FI w w.heap.size (w.heap.size + 1) = FI w t (t + 1) from by rw [ht]] at HF0
  generalize (w.alloc (.cells (tabC 4) 49)).alloc (.cells (#[.slice none 0 0, .slice none 0 0, .slice none 0 0, .slice none 0 0] : Array Value) 42) = W1 at *
  rw [ht]
  have HTT := Lib.hid ht
  clear ht
  obtain ⟨g, hg⟩ : ∃ g, t + 1 = g := ⟨_, rfl⟩
  rw [hg] at HF0 ⊢
  clear hg
  go_loopw [8] (fun i wr => ∃ j : Nat, j ≤ len1 ∧ i = .int .i64 j ∧ ∃ (H : Nat → List Int) (a : Nat → Option Addr) (c : Nat → Nat) (b : Nat → Option Addr) (cc : Nat → Nat), FI w t g (apartS H) H wr a c b cc ∧ HOk H ∧ ∀ m, m < 4 → (H m).length ≤ j) (fun i _ => len1 - (intOf i).toNat)
  case atStart => exact ⟨0, Nat.zero_le _, rfl, _, _, _, _, _, HF0.out, hok_nil, fun m hm => Nat.le_refl _⟩
  case round =>
    obtain ⟨j, hj, rfl, H, ta, tc, tb, tcc, hf, hok, hcl⟩ := hrel
    have HF := Lib.hid hf
    have HOK := Lib.hid hok
    have HCL := Lib.hid hcl
    clear hf hok hcl
    by_cases hlt : j < len1
    · obtain ⟨ob, oo, rfl, hob, g0⟩ := HI.out.at (j := j) (by rw [HL.out]; exact hlt)
      obtain ⟨z, hzz⟩ : ∃ z, zs[j]'(by rw [HL.out]; exact hlt) = z := ⟨_, rfl⟩
      obtain ⟨hzb0, hzb1⟩ := HZ.out (zs[j]'(by rw [HL.out]; exact hlt)) (List.getElem_mem _)
      rw [hzz] at g0 hzb0 hzb1
      replace g0 := (HF.out.n.b.cell (p := ⟨ob, oo + j, none⟩) hob).trans g0
      obtain ⟨k, hk⟩ : ∃ k : Nat, z % 70 = k := ⟨(z % 70).toNat, by omega⟩
      have hk70 : k < 70 := by omega
      obtain ⟨y, hy⟩ : ∃ y : Nat, k % 4 = y := ⟨_, rfl⟩
      have hy4 : y < 4 := by omega
      have HKZ := Lib.hid hk
      have HYK := Lib.hid (show (k : Int) % 4 = (y : Int) by omega)
      have HY := Lib.hid hy
      clear hzz hy hk
      go_wp2_with fail
      rw [HKZ.out, HYK.out]
      clear g0 hzb0 hzb1
      refine (want_any t 4 (apartS H) ta tc (apart_fit H) y (by omega) (by omega) (by omega) k _ HF.out.tt).mono ?_
      rintro e w2 ⟨rfl, a2, c2, hmv⟩
      have car := HF.out.ar y hy4
      have hqy := HF.out.q y hy4
      have hln := HCL.out y hy4
      by_cases hno : ∃ q ∈ H (k % 4), (k : Int) ≤ q
      · have hw : wantS (apartS H) (y : Int) k = (apartS H, false, 1) := by rw [← HY.out]; exact apart_no HOK.out hk70 hno
        rw [hw] at hmv ⊢
        have HF2 := Lib.hid (HF.out.moved hmv)
        replace car := HF2.out.ar y hy4
        replace hqy := HF2.out.q y hy4
        obtain ⟨n, hn⟩ : ∃ n, (H y).length = n + 1 := by
          obtain ⟨q, hq, _⟩ := hno
          rw [HY.out] at hq
          cases hh : H y with
          | nil => rw [hh] at hq; cases hq
          | cons p r => exact ⟨r.length, rfl⟩
        have hge : (k : Int) ≤ (H y)[n]'(by omega) := by
          obtain ⟨q, hq, hkq⟩ := hno
          rw [HY.out] at hq
          exact Int.le_trans hkq (last_ge (HOK.out.s y hy4) hn hq)
        obtain ⟨gb, go, hgb, _, hc⟩ := hqy.ints.at (j := n) (by omega)
        obtain ⟨v, hv⟩ : ∃ v, (H y)[n]'(by omega) = v := ⟨_, rfl⟩
        rw [hv] at hc hge
        rw [hgb, hn] at car
        rw [hn] at hln
        have HNN := Lib.hid hn
        clear hmv hno hw hqy hv hn hgb
        have hyi0 : (0 : Int) ≤ (y : Int) := by omega
        have hyi4 : (y : Int) < 4 := by omega
        have hk0 : (0 : Int) < (n : Int) + 1 := by omega
        have hk2 : (0 : Int) ≤ (n : Int) := by omega
        have hk3 : (n : Int) ≤ 100 := by omega
        go_wp2_with fail
        go_roundw
        case rel => exact ⟨j + 1, by omega, by go_num, H, a2, c2, tb, tcc, HF2.out, HOK.out, fun m hm => Nat.le_trans (HCL.out m hm) (by omega)⟩
        case measure => simp [intOf]; omega
      · have hb : ∀ q ∈ H (k % 4), q < (k : Int) := fun q hq => by
          by_cases e : q < (k : Int)
          · exact e
          · exact absurd ⟨q, hq, by omega⟩ hno
        have hw : wantS (apartS H) (y : Int) k = (apartS (updF H y (H y ++ [(k : Int)])), true, 0) := by
          have := apart_yes HOK.out hk70 hb
          rw [HY.out] at this; exact this
        rw [hw] at hmv ⊢
        have HF2 := Lib.hid (HF.out.moved hmv)
        have HOK2 := Lib.hid (show HOk (updF H y (H y ++ [(k : Int)])) from by have := hok_push HOK.out hk70 hb; rw [HY.out] at this; exact this)
        have HH := Lib.hid (holds_any t 4 (apartS (updF H y (H y ++ [(k : Int)]))) a2 c2 y (by omega) (by omega) k hk70 w2 HF2.out.tt)
        rw [show ((apartS (updF H y (H y ++ [(k : Int)])) k).h == (y : Int) + 1) = true from by unfold apartS; rw [if_pos ⟨hk70, by rw [HY.out, updF_same]; simp⟩, HY.out]; simp] at HH
        replace car := HF2.out.ar y hy4
        replace hqy := HF2.out.q y hy4
        have HQY := Lib.hid hqy
        have HB := Lib.hid (show ∀ q ∈ H y, q < (k : Int) from fun q hq => hb q (by rw [HY.out]; exact hq))
        have hcar := HF2.out.fr y
        clear hmv hno hw hb hqy
        have hyi0 : (0 : Int) ≤ (y : Int) := by omega
        have hyi4 : (y : Int) < 4 := by omega
        obtain ⟨n, hn⟩ : ∃ n, (H y).length = n := ⟨_, rfl⟩
        have HLN := Lib.hid hn
        rw [hn] at car hln
        clear hn
        cases n with
        | zero =>
          go_wp2_with (first | (go_at_call 12; refine HH.out.mono ?_; rintro e w' ⟨rfl, rfl⟩) | (at_builtin; refine wpList_append_qn _ rfl (.tmp 90) (.tmp 92) 30 rfl 3 i0 Try.underlying30 hi0 hz0 hz1 hz2 (tb y) (tcc y) (H y) 0 1 HLN.out rfl (by rfl) ((HF2.out.nw (Nw.refl.alloc (.cells #[.int .i64 (k : Int)] 3))).q y hy4) (by omega) ⟨w2.heap.size, 0, none⟩ 1 (k : Int) rfl (by have := World.cell?_alloc_new w2 #[.int .i64 (k : Int)] 3 0; rw [this]; rfl) ?_; intro b4 cc4 w4 hq4 hu4 hf4; have hm4 := (HF2.out.nw (Nw.refl.alloc (.cells #[.int .i64 (k : Int)] 3))).mid hy4 hu4; have d4 := (hm4.1 y).trans ((HF2.out.nw (Nw.refl.alloc (.cells #[.int .i64 (k : Int)] 3))).ar y hy4); have f4 := (hm4.2 y).trans ((HF2.out.nw (Nw.refl.alloc (.cells #[.int .i64 (k : Int)] 3))).fr y); have HF4 := Lib.hid ((HF2.out.nw (Nw.refl.alloc (.cells #[.int .i64 (k : Int)] 3))).push y hy4 b4 cc4 (H y ++ [(k : Int)]) hu4 hq4 hf4); rw [show (H y ++ [(k : Int)]).length = 1 from by rw [List.length_append, HLN.out]; rfl] at HF4; clear hm4 hq4 hu4 hf4))
          go_roundw
          case rel => exact ⟨j + 1, by omega, by go_num, _, a2, c2, _, _, HF4.out, HOK2.out, fun m hm => by rw [updF_at]; split; (rw [List.length_append, HLN.out]; simp); exact Nat.le_trans (HCL.out m hm) (by omega)⟩
          case measure => simp [intOf]; omega
        | succ n =>
          obtain ⟨gb, go, hgb, _, hc⟩ := HQY.out.ints.at (j := n) (by rw [HLN.out]; omega)
          obtain ⟨v, hv⟩ : ∃ v, (H y)[n]'(by rw [HLN.out]; omega) = v := ⟨_, rfl⟩
          have hlt' := HB.out v (by rw [← hv]; exact List.getElem_mem _)
          rw [hv] at hc
          rw [hgb] at car
          have HGB := Lib.hid hgb
          clear hv hgb
          have hk0 : (0 : Int) < (n : Int) + 1 := by omega
          have hk2 : (0 : Int) ≤ (n : Int) := by omega
          have hk3 : (n : Int) ≤ 100 := by omega
          go_wp2_with (first | (go_at_call 12; refine HH.out.mono ?_; rintro e w' ⟨rfl, rfl⟩) | (at_builtin; refine wpList_append_qn _ rfl (.tmp 90) (.tmp 92) 30 rfl 3 i0 Try.underlying30 hi0 hz0 hz1 hz2 (some ⟨gb, go, none⟩) (tcc y) (H y) (n + 1) (n + 1 + 1) HLN.out rfl (by rfl) (by rw [← HGB.out]; exact (HF2.out.nw (Nw.refl.alloc (.cells #[.int .i64 (k : Int)] 3))).q y hy4) (by omega) ⟨w2.heap.size, 0, none⟩ 1 (k : Int) rfl (by have := World.cell?_alloc_new w2 #[.int .i64 (k : Int)] 3 0; rw [this]; rfl) ?_; intro b4 cc4 w4 hq4 hu4 hf4; have hm4 := (HF2.out.nw (Nw.refl.alloc (.cells #[.int .i64 (k : Int)] 3))).mid hy4 (by rw [HGB.out]; exact hu4); have d4 := (hm4.1 y).trans ((HF2.out.nw (Nw.refl.alloc (.cells #[.int .i64 (k : Int)] 3))).ar y hy4); have f4 := (hm4.2 y).trans ((HF2.out.nw (Nw.refl.alloc (.cells #[.int .i64 (k : Int)] 3))).fr y); have HF4 := Lib.hid ((HF2.out.nw (Nw.refl.alloc (.cells #[.int .i64 (k : Int)] 3))).push y hy4 b4 cc4 (H y ++ [(k : Int)]) (by rw [HGB.out]; exact hu4) hq4 (fun p hp => by rw [HGB.out]; exact hf4 p hp)); rw [show (H y ++ [(k : Int)]).length = (n + 1 + 1) from by rw [List.length_append, HLN.out]; rfl] at HF4; clear hm4 hq4 hu4 hf4))
          go_roundw
          case rel => exact ⟨j + 1, by omega, by go_num, _, a2, c2, _, _, HF4.out, HOK2.out, fun m hm => by rw [updF_at]; split; (rw [List.length_append, HLN.out]; simp; omega); exact Nat.le_trans (HCL.out m hm) (by omega)⟩
          case measure => simp [intOf]; omega
    · obtain rfl : j = len1 := by omega
      clear HF0
      go_wp2_with fail
      obtain ⟨gu, hgu⟩ : ∃ gu : Nat, u % 4 = gu := ⟨_, rfl⟩
      have hgu4 : gu < 4 := by omega
      rw [show ((u : Int) % 4) = (gu : Int) from by omega]
      clear hgu
      go_loopw [15] (fun i wr => ∃ m : Nat, m ≤ 4 ∧ i = .int .i64 m ∧ FI w t g (apartS H) H wr ta tc tb tcc) (fun i _ => 4 - (intOf i).toNat)
      case atStart => exact ⟨0, Nat.zero_le _, rfl, HF.out⟩
      case round =>
        clear HF
        obtain ⟨m, hm, rfl, hf⟩ := hrel
        have HF := Lib.hid hf
        clear hf
        by_cases hm4 : m < 4
        · have car := HF.out.ar m hm4
          have hln := HCL.out m hm4
          have HHE := Lib.hid (held_any t 4 (apartS H) ta tc m (by omega) (by omega) wr.drew (HF.out.nw Nw.refl.drew).tt)
          rw [apart_held HOK.out hm4] at HHE
          have HQM := Lib.hid (HF.out.q m hm4)
          obtain ⟨ln, hlen⟩ : ∃ ln, (H m).length = ln := ⟨_, rfl⟩
          rw [hlen] at car hln
          have HLN := Lib.hid hlen
          have HHE' : Hid (Calls Try.prog 15 #[.pointer (some ⟨t, 0, none⟩), .int .i64 (m : Int)] wr.drew fun e w' => ∃ aq cq, e = .returned (.slice aq ln cq) ∧ Ints w'.heap.size .i64 w' aq (H m) ∧ Nw wr.drew w') := Lib.hid (HHE.out.mono fun e w' hh => by obtain ⟨aq, cq, h1, h2, h3, _⟩ := hh.slice; exact ⟨aq, cq, by rw [h1, hlen], h2, h3⟩)
          have HSM : Hid (∀ (B : Nat) (W : World) (a1 a2 : Option Addr) (c1 c2 : Nat), Ints B .i64 W a1 (H m) → Ints B .i64 W a2 (H m) → Calls Try.prog 13 #[.slice a1 ln c1, .slice a2 ln c2] W (Yes true W)) := Lib.hid (fun B W a1 a2 c1 c2 h1 h2 => by have := same_yes a1 a2 c1 c2 (H m) (H m) rfl (by omega) B W h1 h2; rwa [hlen] at this)
          have hmi0 : (0 : Int) ≤ (m : Int) := by omega
          have hmi4 : (m : Int) < 4 := by omega
          clear hlen
          go_wp2_with fail
          go_region_held3 (fun w' => w'.cell? ⟨g, m, none⟩ = some (.slice (tb m) ln (tcc m)) ∧ Nw wr w')
            (first | (exact ⟨car, Nw.refl.drew⟩) | (exact ⟨(hN7.b.cell (p := ⟨g, m, none⟩) (cell_lt car).1).trans car, hN7⟩) | (exact ⟨(hN5.b.cell (p := ⟨g, m, none⟩) (cell_lt car).1).trans car, hN5⟩))
            ((first
              | (go_at_call 15; refine HHE'.out.mono ?_; rintro e w5 ⟨aq, cq, rfl, hIq, hnq⟩; have HIQ := Lib.hid hIq; have hN5 := Nw.refl.drew.trans hnq; have HT5 := Lib.hid (HQM.out.nw hN5); clear hIq hnq)
              | (go_at_call 13; refine (HSM.out _ _ _ _ _ _ HIQ.out HT5.out.ints).mono ?_; rintro e w6 ⟨rfl, hn6⟩; have hN7 := hN5.trans hn6; clear hn6)))
          have HN7 := Lib.hid hN7
          clear hN7 hN5
          go_wp2_with fail
          go_roundw
          case rel => exact ⟨m + 1, by omega, by go_num, HF.out.nw HN7.out⟩
          case measure => simp [intOf]; omega
        · obtain rfl : m = 4 := by omega
          have HG := Lib.hid (apart_give (H := H) hgu4)
          rw [show (((4 : Nat)) : Int) = 4 from rfl]
          go_wp2_with fail
          refine (give_any t 4 (apartS H) ta tc (apart_fit H) (apart_in H) gu (by omega) (by omega) (by omega) wr HF.out.tt).mono ?_
          rintro e w2 ⟨ax, cx, rfl, hI, hcx, a2, c2, hmv⟩
          rw [HG.out.1] at hmv
          rw [HG.out.2]
          have HF2 := Lib.hid (HF.out.moved hmv)
          have HOK2 := Lib.hid (hok_give HOK.out gu)
          clear hmv hI hcx
          rw [show ([] : List Int).length = 0 from rfl]
          go_wp2_with fail
          go_loopw [16] (fun i wr => ∃ m : Nat, m ≤ 4 ∧ i = .int .i64 m ∧ FI w t g (apartS (updF H gu [])) H wr a2 c2 tb tcc) (fun i _ => 4 - (intOf i).toNat)
          case atStart => exact ⟨0, Nat.zero_le _, rfl, HF2.out⟩
          case round =>
            clear HF HF2
            obtain ⟨m, hm, rfl, hf⟩ := hrel
            have HF := Lib.hid hf
            clear hf
            by_cases hm4 : m < 4
            · have HHE := Lib.hid (held_any t 4 (apartS (updF H gu [])) a2 c2 m (by omega) (by omega) wr.drew (HF.out.nw Nw.refl.drew).tt)
              rw [apart_held HOK2.out hm4] at HHE
              have hmi0 : (0 : Int) ≤ (m : Int) := by omega
              have hmi4 : (m : Int) < 4 := by omega
              have car := HF.out.ar m hm4
              by_cases e : m = gu
              · subst e
                rw [updF_same] at HHE
                have HHE' : Hid (Calls Try.prog 15 #[.pointer (some ⟨t, 0, none⟩), .int .i64 (m : Int)] wr.drew fun e w' => ∃ aq cq, e = .returned (.slice aq 0 cq) ∧ Nw wr.drew w') := Lib.hid (HHE.out.mono fun e w' hh => by obtain ⟨aq, cq, h1, h2, h3, _⟩ := hh.slice; exact ⟨aq, cq, h1, h3⟩)
                go_wp2_with fail
                refine wp_region_noPanic ?_
                refine wp_region_held_drew (S := (fun w' => w'.cell? ⟨g, m, none⟩ = some (.slice (tb m) (H m).length (tcc m)) ∧ Nw wr w')) (by kernel_rfl) ?_ (fun hHeld => ?_)
                · exact ⟨car, Nw.refl.drew⟩
                refine takeD (i := 0) (v := ?_) 119 rfl rfl ?_ ?_ ?_ (fun _ _ _ h => h) ?_ (by assumption) ?_
                rotate_left
                · kernel_rfl
                · kernel_rfl
                · kernel_rfl
                · refine Or.inl (And.intro ?_ ?_)
                  · rfl
                  · intro w hSw
                    try dsimp only at hSw
                    first | (go_simp; done) | (go_simp; with_reducible rfl)
                simp only [List.setIfInBounds_toArray, List.set_cons_zero, List.set_cons_succ]
                refine takeD (i := 1) (v := ?_) 120 rfl rfl ?_ ?_ ?_ (fun _ _ _ h => h) ?_ (by assumption) ?_
                rotate_left
                · kernel_rfl
                · kernel_rfl
                · kernel_rfl
                · refine Or.inl (And.intro ?_ ?_)
                  · rfl
                  · intro w hSw
                    try dsimp only at hSw
                    first | (go_simp; done) | (go_simp; with_reducible rfl)
                simp only [List.setIfInBounds_toArray, List.set_cons_zero, List.set_cons_succ]
                refine takeD (i := 2) (v := ?_) 121 rfl rfl ?_ ?_ ?_ (fun _ _ _ h => h) ?_ (by assumption) ?_
                rotate_left
                · kernel_rfl
                · kernel_rfl
                · kernel_rfl
                · refine Or.inl (And.intro ?_ ?_)
                  · rfl
                  · intro w hSw
                    try dsimp only at hSw
                    first | (go_simp; done) | (go_simp; with_reducible rfl)
                simp only [List.setIfInBounds_toArray, List.set_cons_zero, List.set_cons_succ]
                refine takeD (i := 3) (v := ?_) 122 rfl rfl ?_ ?_ ?_ (fun _ _ _ h => h) ?_ (by assumption) ?_
                rotate_left
                · kernel_rfl
                · kernel_rfl
                · kernel_rfl
                · refine Or.inl (And.intro ?_ ?_)
                  · rfl
                  · intro w hSw
                    try dsimp only at hSw
                    first | (go_simp; done) | (go_simp; with_reducible rfl)
                simp only [List.setIfInBounds_toArray, List.set_cons_zero, List.set_cons_succ]
                refine takeD (i := 4) (v := ?_) 123 rfl rfl ?_ ?_ ?_ (fun _ _ _ h => h) ?_ (by assumption) ?_
                rotate_left
                · kernel_rfl
                · kernel_rfl
                · kernel_rfl
                · refine Or.inl (And.intro ?_ ?_)
                  · rfl
                  · intro w hSw
                    try dsimp only at hSw
                    first | (go_simp; done) | (go_simp; with_reducible rfl)
                simp only [List.setIfInBounds_toArray, List.set_cons_zero, List.set_cons_succ]
                refine takeD (i := 5) (v := ?_) 124 rfl rfl ?_ ?_ ?_ (fun _ _ _ h => h) ?_ (by assumption) ?_
                rotate_left
                · kernel_rfl
                · kernel_rfl
                · kernel_rfl
                · refine Or.inl (And.intro ?_ ?_)
                  · rfl
                  · intro w hSw
                    try dsimp only at hSw
                    first | (go_simp; done) | (go_simp; with_reducible rfl)
                simp only [List.setIfInBounds_toArray, List.set_cons_zero, List.set_cons_succ]
                refine wpAnyH_ready (rs := [6]) (by kernel_rfl) (by simp) ?_
                refine AllReadyH.cons rfl (fun K hK => ?_) AllReadyH.nil
                go_simp
                go_wp2_with ((go_at_call 15; refine HHE'.out.mono ?_; rintro e w5 ⟨aq, cq, rfl, hnq⟩; have HN5 := Lib.hid (Nw.refl.drew.trans hnq); clear hnq))
                refine hK.out _ _ ?_ (fun hHeld2 => ?_)
                · exact ⟨(HN5.out.b.cell (p := ⟨g, m, none⟩) (cell_lt car).1).trans car, HN5.out⟩
                have hHeld := hHeld2
                clear hHeld2 hK K
                refine takeD (i := 7) (v := ?_) 126 rfl rfl ?_ ?_ ?_ (fun _ _ _ h => h) ?_ (by assumption) ?_
                rotate_left
                · kernel_rfl
                · kernel_rfl
                · kernel_rfl
                · refine Or.inl (And.intro ?_ ?_)
                  · rfl
                  · intro w hSw
                    try dsimp only at hSw
                    first | (go_simp; done) | (go_simp; with_reducible rfl)
                simp only [List.setIfInBounds_toArray, List.set_cons_zero, List.set_cons_succ]
                refine takeD (i := 8) (v := ?_) 127 rfl rfl ?_ ?_ ?_ (fun _ _ _ h => h) ?_ (by assumption) ?_
                rotate_left
                · kernel_rfl
                · kernel_rfl
                · kernel_rfl
                · refine Or.inl (And.intro ?_ ?_)
                  · rfl
                  · intro w hSw
                    try dsimp only at hSw
                    first | (go_simp; done) | (go_simp; with_reducible rfl)
                simp only [List.setIfInBounds_toArray, List.set_cons_zero, List.set_cons_succ]
                refine takeD (i := 9) (v := ?_) 128 rfl rfl ?_ ?_ ?_ (fun _ _ _ h => h) ?_ (by assumption) ?_
                rotate_left
                · kernel_rfl
                · kernel_rfl
                · kernel_rfl
                · refine Or.inl (And.intro ?_ ?_)
                  · rfl
                  · intro w hSw
                    try dsimp only at hSw
                    first | (go_simp; done) | (go_simp; with_reducible rfl)
                simp only [List.setIfInBounds_toArray, List.set_cons_zero, List.set_cons_succ]
                refine takeD (i := 10) (v := ?_) 129 rfl rfl ?_ ?_ ?_ (fun _ _ _ h => h) ?_ (by assumption) ?_
                rotate_left
                · kernel_rfl
                · kernel_rfl
                · kernel_rfl
                · refine Or.inl (And.intro ?_ ?_)
                  · rfl
                  · intro w hSw
                    try dsimp only at hSw
                    first | (go_simp; done) | (go_simp; with_reducible rfl)
                simp only [List.setIfInBounds_toArray, List.set_cons_zero, List.set_cons_succ]
                refine takeD (i := 11) (v := ?_) 130 rfl rfl ?_ ?_ ?_ (fun _ _ _ h => h) ?_ (by assumption) ?_
                rotate_left
                · kernel_rfl
                · kernel_rfl
                · kernel_rfl
                · refine Or.inl (And.intro ?_ ?_)
                  · rfl
                  · intro w hSw
                    try dsimp only at hSw
                    first | (go_simp; done) | (go_simp; with_reducible rfl)
                simp only [List.setIfInBounds_toArray, List.set_cons_zero, List.set_cons_succ]
                refine takeD (i := 12) (v := ?_) 131 rfl rfl ?_ ?_ ?_ (fun _ _ _ h => h) ?_ (by assumption) ?_
                rotate_left
                · kernel_rfl
                · kernel_rfl
                · kernel_rfl
                · refine Or.inl (And.intro ?_ ?_)
                  · rfl
                  · intro w hSw
                    try dsimp only at hSw
                    first | (go_simp; done) | (go_simp; with_reducible rfl)
                simp only [List.setIfInBounds_toArray, List.set_cons_zero, List.set_cons_succ]
                refine takeD (i := 13) (v := ?_) 132 rfl rfl ?_ ?_ ?_ (fun _ _ _ h => h) ?_ (by assumption) ?_
                rotate_left
                · kernel_rfl
                · kernel_rfl
                · kernel_rfl
                · refine Or.inl (And.intro ?_ ?_)
                  · rfl
                  · intro w hSw
                    try dsimp only at hSw
                    first | (go_simp; done) | (go_simp; with_reducible rfl)
                simp only [List.setIfInBounds_toArray, List.set_cons_zero, List.set_cons_succ]
                refine takeD (i := 14) (v := ?_) 133 rfl rfl ?_ ?_ ?_ (fun _ _ _ h => h) ?_ (by assumption) ?_
                rotate_left
                · kernel_rfl
                · kernel_rfl
                · kernel_rfl
                · refine Or.inl (And.intro ?_ ?_)
                  · rfl
                  · intro w hSw
                    try dsimp only at hSw
                    first | (go_simp; done) | (go_simp; with_reducible rfl)
                simp only [List.setIfInBounds_toArray, List.set_cons_zero, List.set_cons_succ]
                refine takeD (i := 15) (v := undef) 134 rfl rfl ?_ ?_ ?_ (fun _ _ _ h => h) (Or.inr (And.intro ?_ rfl)) (by assumption) ?_
                · kernel_rfl
                · kernel_rfl
                · kernel_rfl
                · rfl
                simp only [List.setIfInBounds_toArray, List.set_cons_zero, List.set_cons_succ]
                refine takeD (i := 16) (v := undef) 135 rfl rfl ?_ ?_ ?_ (fun _ _ _ h => h) (Or.inr (And.intro ?_ rfl)) (by assumption) ?_
                · kernel_rfl
                · kernel_rfl
                · kernel_rfl
                · rfl
                simp only [List.setIfInBounds_toArray, List.set_cons_zero, List.set_cons_succ]
                refine takeD (i := 18) (v := undef) 137 rfl rfl ?_ ?_ ?_ (fun _ _ _ h => h) (Or.inr (And.intro ?_ rfl)) (by assumption) ?_
                · kernel_rfl
                · kernel_rfl
                · kernel_rfl
                · rfl
                simp only [List.setIfInBounds_toArray, List.set_cons_zero, List.set_cons_succ]
                refine takeD (i := 19) (v := undef) 138 rfl rfl ?_ ?_ ?_ (fun _ _ _ h => h) (Or.inr (And.intro ?_ rfl)) (by assumption) ?_
                · kernel_rfl
                · kernel_rfl
                · kernel_rfl
                · rfl
                simp only [List.setIfInBounds_toArray, List.set_cons_zero, List.set_cons_succ]
                refine takeD (i := 20) (v := undef) 139 rfl rfl ?_ ?_ ?_ (fun _ _ _ h => h) (Or.inr (And.intro ?_ rfl)) (by assumption) ?_
                · kernel_rfl
                · kernel_rfl
                · kernel_rfl
                · rfl
                simp only [List.setIfInBounds_toArray, List.set_cons_zero, List.set_cons_succ]
                refine wpAnyH_ready (rs := [17]) (by kernel_rfl) (by simp) ?_
                refine AllReadyH.cons rfl (fun K hK => ?_) AllReadyH.nil
                go_simp
                refine hK.out _ _ ?_ (fun hHeld2 => ?_)
                · exact hHeld
                have hHeld := hHeld2
                clear hHeld2 hK K
                refine wpAnyH_ready (rs := [21]) (by kernel_rfl) (by simp) ?_
                refine AllReadyH.cons rfl (fun K hK => ?_) AllReadyH.nil
                go_simp
                refine hK.out _ _ ?_ (fun hHeld2 => ?_)
                · exact hHeld
                have hHeld := hHeld2
                clear hHeld2 hK K
                refine takeD (i := 22) (v := undef) 141 rfl rfl ?_ ?_ ?_ (fun _ _ _ h => h) (Or.inr (And.intro ?_ rfl)) (by assumption) ?_
                · kernel_rfl
                · kernel_rfl
                · kernel_rfl
                · rfl
                simp only [List.setIfInBounds_toArray, List.set_cons_zero, List.set_cons_succ]
                refine takeD (i := 23) (v := ?_) 142 rfl rfl ?_ ?_ ?_ (fun _ _ _ h => h) ?_ (by assumption) ?_
                rotate_left
                · kernel_rfl
                · kernel_rfl
                · kernel_rfl
                · refine Or.inl (And.intro ?_ ?_)
                  · rfl
                  · intro w hSw
                    try dsimp only at hSw
                    first | (go_simp; done) | (go_simp; with_reducible rfl)
                simp only [List.setIfInBounds_toArray, List.set_cons_zero, List.set_cons_succ]
                refine takeD (i := 24) (v := ?_) 143 rfl rfl ?_ ?_ ?_ (fun _ _ _ h => h) ?_ (by assumption) ?_
                rotate_left
                · kernel_rfl
                · kernel_rfl
                · kernel_rfl
                · refine Or.inl (And.intro ?_ ?_)
                  · rfl
                  · intro w hSw
                    try dsimp only at hSw
                    first | (go_simp; done) | (go_simp; with_reducible rfl)
                simp only [List.setIfInBounds_toArray, List.set_cons_zero, List.set_cons_succ]
                refine wpAnyH_done (by kernel_rfl) ?_ _
                refine NoPanic.normal ?_
                clear hHeld
                go_wp2_with fail
                go_roundw
                case rel => exact ⟨m + 1, by omega, by go_num, HF.out.nw HN5.out⟩
                case measure => simp [intOf]; omega
              · rw [updF_ne _ _ e] at HHE
                have hln := HCL.out m hm4
                have HQM := Lib.hid (HF.out.q m hm4)
                obtain ⟨ln, hlen⟩ : ∃ ln, (H m).length = ln := ⟨_, rfl⟩
                rw [hlen] at car hln
                have HLN := Lib.hid hlen
                have HHE' : Hid (Calls Try.prog 15 #[.pointer (some ⟨t, 0, none⟩), .int .i64 (m : Int)] wr.drew fun e w' => ∃ aq cq, e = .returned (.slice aq ln cq) ∧ Ints w'.heap.size .i64 w' aq (H m) ∧ Nw wr.drew w') := Lib.hid (HHE.out.mono fun e w' hh => by obtain ⟨aq, cq, h1, h2, h3, _⟩ := hh.slice; exact ⟨aq, cq, by rw [h1, hlen], h2, h3⟩)
                have HSM : Hid (∀ (B : Nat) (W : World) (a1 a2 : Option Addr) (c1 c2 : Nat), Ints B .i64 W a1 (H m) → Ints B .i64 W a2 (H m) → Calls Try.prog 13 #[.slice a1 ln c1, .slice a2 ln c2] W (Yes true W)) := Lib.hid (fun B W a1 a2 c1 c2 h1 h2 => by have := same_yes a1 a2 c1 c2 (H m) (H m) rfl (by omega) B W h1 h2; rwa [hlen] at this)
                clear hlen
                go_wp2_with fail
                have he1 : ((m : Int) == (gu : Int)) = false := by rw [beq_eq_false_iff_ne]; omega
                have he2 : ((m : Int) != (gu : Int)) = true := by rw [bne_iff_ne]; omega
                have he3 : (m == gu) = false := by rw [beq_eq_false_iff_ne]; exact e
                have he4 : (m != gu) = true := by rw [bne_iff_ne]; exact e
                refine wp_region_noPanic ?_
                refine wp_region_held_drew (S := (fun w' => w'.cell? ⟨g, m, none⟩ = some (.slice (tb m) ln (tcc m)) ∧ Nw wr w')) (by kernel_rfl) ?_ (fun hHeld => ?_)
                · exact ⟨car, Nw.refl.drew⟩
                refine takeD (i := 0) (v := ?_) 119 rfl rfl ?_ ?_ ?_ (fun _ _ _ h => h) ?_ (by assumption) ?_
                rotate_left
                · kernel_rfl
                · kernel_rfl
                · kernel_rfl
                · refine Or.inl (And.intro ?_ ?_)
                  · rfl
                  · intro w hSw
                    try dsimp only at hSw
                    first | (go_simp; done) | (go_simp; with_reducible rfl)
                simp only [List.setIfInBounds_toArray, List.set_cons_zero, List.set_cons_succ]
                refine takeD (i := 1) (v := ?_) 120 rfl rfl ?_ ?_ ?_ (fun _ _ _ h => h) ?_ (by assumption) ?_
                rotate_left
                · kernel_rfl
                · kernel_rfl
                · kernel_rfl
                · refine Or.inl (And.intro ?_ ?_)
                  · rfl
                  · intro w hSw
                    try dsimp only at hSw
                    first | (go_simp; done) | (go_simp; with_reducible rfl)
                simp only [List.setIfInBounds_toArray, List.set_cons_zero, List.set_cons_succ]
                refine takeD (i := 2) (v := ?_) 121 rfl rfl ?_ ?_ ?_ (fun _ _ _ h => h) ?_ (by assumption) ?_
                rotate_left
                · kernel_rfl
                · kernel_rfl
                · kernel_rfl
                · refine Or.inl (And.intro ?_ ?_)
                  · rfl
                  · intro w hSw
                    try dsimp only at hSw
                    first | (go_simp; done) | (go_simp; with_reducible rfl)
                simp only [List.setIfInBounds_toArray, List.set_cons_zero, List.set_cons_succ]
                refine takeD (i := 3) (v := ?_) 122 rfl rfl ?_ ?_ ?_ (fun _ _ _ h => h) ?_ (by assumption) ?_
                rotate_left
                · kernel_rfl
                · kernel_rfl
                · kernel_rfl
                · refine Or.inl (And.intro ?_ ?_)
                  · rfl
                  · intro w hSw
                    try dsimp only at hSw
                    first | (go_simp; done) | (go_simp; with_reducible rfl)
                simp only [List.setIfInBounds_toArray, List.set_cons_zero, List.set_cons_succ]
                refine takeD (i := 4) (v := undef) 123 rfl rfl ?_ ?_ ?_ (fun _ _ _ h => h) (Or.inr (And.intro ?_ rfl)) (by assumption) ?_
                · kernel_rfl
                · kernel_rfl
                · kernel_rfl
                · rfl
                simp only [List.setIfInBounds_toArray, List.set_cons_zero, List.set_cons_succ]
                refine takeD (i := 5) (v := undef) 124 rfl rfl ?_ ?_ ?_ (fun _ _ _ h => h) (Or.inr (And.intro ?_ rfl)) (by assumption) ?_
                · kernel_rfl
                · kernel_rfl
                · kernel_rfl
                · rfl
                simp only [List.setIfInBounds_toArray, List.set_cons_zero, List.set_cons_succ]
                refine wpAnyH_ready (rs := [6]) (by kernel_rfl) (by simp) ?_
                refine AllReadyH.cons rfl (fun K hK => ?_) AllReadyH.nil
                go_simp
                refine hK.out _ _ ?_ (fun hHeld2 => ?_)
                · exact hHeld
                have hHeld := hHeld2
                clear hHeld2 hK K
                refine takeD (i := 7) (v := undef) 126 rfl rfl ?_ ?_ ?_ (fun _ _ _ h => h) (Or.inr (And.intro ?_ rfl)) (by assumption) ?_
                · kernel_rfl
                · kernel_rfl
                · kernel_rfl
                · rfl
                simp only [List.setIfInBounds_toArray, List.set_cons_zero, List.set_cons_succ]
                refine takeD (i := 8) (v := undef) 127 rfl rfl ?_ ?_ ?_ (fun _ _ _ h => h) (Or.inr (And.intro ?_ rfl)) (by assumption) ?_
                · kernel_rfl
                · kernel_rfl
                · kernel_rfl
                · rfl
                simp only [List.setIfInBounds_toArray, List.set_cons_zero, List.set_cons_succ]
                refine takeD (i := 9) (v := ?_) 128 rfl rfl ?_ ?_ ?_ (fun _ _ _ h => h) ?_ (by assumption) ?_
                rotate_left
                · kernel_rfl
                · kernel_rfl
                · kernel_rfl
                · refine Or.inl (And.intro ?_ ?_)
                  · rfl
                  · intro w hSw
                    try dsimp only at hSw
                    first | (go_simp; done) | (go_simp; with_reducible rfl)
                simp only [List.setIfInBounds_toArray, List.set_cons_zero, List.set_cons_succ]
                refine takeD (i := 10) (v := ?_) 129 rfl rfl ?_ ?_ ?_ (fun _ _ _ h => h) ?_ (by assumption) ?_
                rotate_left
                · kernel_rfl
                · kernel_rfl
                · kernel_rfl
                · refine Or.inl (And.intro ?_ ?_)
                  · rfl
                  · intro w hSw
                    try dsimp only at hSw
                    first | (go_simp; done) | (go_simp; with_reducible rfl)
                simp only [List.setIfInBounds_toArray, List.set_cons_zero, List.set_cons_succ]
                refine takeD (i := 11) (v := ?_) 130 rfl rfl ?_ ?_ ?_ (fun _ _ _ h => h) ?_ (by assumption) ?_
                rotate_left
                · kernel_rfl
                · kernel_rfl
                · kernel_rfl
                · refine Or.inl (And.intro ?_ ?_)
                  · rfl
                  · intro w hSw
                    try dsimp only at hSw
                    first | (go_simp; done) | (go_simp; with_reducible rfl)
                simp only [List.setIfInBounds_toArray, List.set_cons_zero, List.set_cons_succ]
                refine takeD (i := 12) (v := ?_) 131 rfl rfl ?_ ?_ ?_ (fun _ _ _ h => h) ?_ (by assumption) ?_
                rotate_left
                · kernel_rfl
                · kernel_rfl
                · kernel_rfl
                · refine Or.inl (And.intro ?_ ?_)
                  · rfl
                  · intro w hSw
                    try dsimp only at hSw
                    first | (go_simp; done) | (go_simp; with_reducible rfl)
                simp only [List.setIfInBounds_toArray, List.set_cons_zero, List.set_cons_succ]
                refine takeD (i := 13) (v := ?_) 132 rfl rfl ?_ ?_ ?_ (fun _ _ _ h => h) ?_ (by assumption) ?_
                rotate_left
                · kernel_rfl
                · kernel_rfl
                · kernel_rfl
                · refine Or.inl (And.intro ?_ ?_)
                  · rfl
                  · intro w hSw
                    try dsimp only at hSw
                    first | (go_simp; done) | (go_simp; with_reducible rfl)
                simp only [List.setIfInBounds_toArray, List.set_cons_zero, List.set_cons_succ]
                refine takeD (i := 14) (v := ?_) 133 rfl rfl ?_ ?_ ?_ (fun _ _ _ h => h) ?_ (by assumption) ?_
                rotate_left
                · kernel_rfl
                · kernel_rfl
                · kernel_rfl
                · refine Or.inl (And.intro ?_ ?_)
                  · rfl
                  · intro w hSw
                    try dsimp only at hSw
                    first | (go_simp; done) | (go_simp; with_reducible rfl)
                simp only [List.setIfInBounds_toArray, List.set_cons_zero, List.set_cons_succ]
                refine takeD (i := 15) (v := ?_) 134 rfl rfl ?_ ?_ ?_ (fun _ _ _ h => h) ?_ (by assumption) ?_
                rotate_left
                · kernel_rfl
                · kernel_rfl
                · kernel_rfl
                · refine Or.inl (And.intro ?_ ?_)
                  · rfl
                  · intro w hSw
                    try dsimp only at hSw
                    first | (go_simp; done) | (go_simp; with_reducible rfl)
                simp only [List.setIfInBounds_toArray, List.set_cons_zero, List.set_cons_succ]
                refine takeD (i := 16) (v := ?_) 135 rfl rfl ?_ ?_ ?_ (fun _ _ _ h => h) ?_ (by assumption) ?_
                rotate_left
                · kernel_rfl
                · kernel_rfl
                · kernel_rfl
                · refine Or.inl (And.intro ?_ ?_)
                  · rfl
                  · intro w hSw
                    try dsimp only at hSw
                    first | (go_simp; done) | (go_simp; with_reducible rfl)
                simp only [List.setIfInBounds_toArray, List.set_cons_zero, List.set_cons_succ]
                refine takeD (i := 18) (v := ?_) 137 rfl rfl ?_ ?_ ?_ (fun _ _ _ h => h) ?_ (by assumption) ?_
                rotate_left
                · kernel_rfl
                · kernel_rfl
                · kernel_rfl
                · refine Or.inl (And.intro ?_ ?_)
                  · rfl
                  · intro w hSw
                    try dsimp only at hSw
                    first | (go_simp; done) | (go_simp; with_reducible rfl)
                simp only [List.setIfInBounds_toArray, List.set_cons_zero, List.set_cons_succ]
                refine takeD (i := 19) (v := ?_) 138 rfl rfl ?_ ?_ ?_ (fun _ _ _ h => h) ?_ (by assumption) ?_
                rotate_left
                · kernel_rfl
                · kernel_rfl
                · kernel_rfl
                · refine Or.inl (And.intro ?_ ?_)
                  · rfl
                  · intro w hSw
                    try dsimp only at hSw
                    first | (go_simp; done) | (go_simp; with_reducible rfl)
                simp only [List.setIfInBounds_toArray, List.set_cons_zero, List.set_cons_succ]
                refine takeD (i := 20) (v := ?_) 139 rfl rfl ?_ ?_ ?_ (fun _ _ _ h => h) ?_ (by assumption) ?_
                rotate_left
                · kernel_rfl
                · kernel_rfl
                · kernel_rfl
                · refine Or.inl (And.intro ?_ ?_)
                  · rfl
                  · intro w hSw
                    try dsimp only at hSw
                    first | (go_simp; done) | (go_simp; with_reducible rfl)
                simp only [List.setIfInBounds_toArray, List.set_cons_zero, List.set_cons_succ]
                refine wpAnyH_ready (rs := [17]) (by kernel_rfl) (by simp) ?_
                refine AllReadyH.cons rfl (fun K hK => ?_) AllReadyH.nil
                go_simp
                go_wp2_with ((go_at_call 15; refine HHE'.out.mono ?_; rintro e w5 ⟨aq, cq, rfl, hIq, hnq⟩; have HIQ := Lib.hid hIq; have HN5 := Lib.hid (Nw.refl.drew.trans hnq); have HT5 := Lib.hid (HQM.out.nw HN5.out); clear hIq hnq))
                refine hK.out _ _ ?_ (fun hHeld2 => ?_)
                · exact ⟨(HN5.out.b.cell (p := ⟨g, m, none⟩) (cell_lt car).1).trans car, HN5.out⟩
                have hHeld := hHeld2
                clear hHeld2 hK K
                refine wpAnyH_ready (rs := [21]) (by kernel_rfl) (by simp) ?_
                refine AllReadyH.cons rfl (fun K hK => ?_) AllReadyH.nil
                go_simp
                go_wp2_with ((go_at_call 13; refine (HSM.out _ _ _ _ _ _ HIQ.out HT5.out.ints).mono ?_; rintro e w6 ⟨rfl, hn6⟩; have HN7 := Lib.hid (HN5.out.trans hn6); clear hn6))
                refine hK.out _ _ ?_ (fun hHeld2 => ?_)
                · exact ⟨(HN7.out.b.cell (p := ⟨g, m, none⟩) (cell_lt car).1).trans car, HN7.out⟩
                have hHeld := hHeld2
                clear hHeld2 hK K
                refine takeD (i := 22) (v := ?_) 141 rfl rfl ?_ ?_ ?_ (fun _ _ _ h => h) ?_ (by assumption) ?_
                rotate_left
                · kernel_rfl
                · kernel_rfl
                · kernel_rfl
                · refine Or.inl (And.intro ?_ ?_)
                  · rfl
                  · intro w hSw
                    try dsimp only at hSw
                    first | (go_simp; done) | (go_simp; with_reducible rfl)
                simp only [List.setIfInBounds_toArray, List.set_cons_zero, List.set_cons_succ]
                refine takeD (i := 23) (v := ?_) 142 rfl rfl ?_ ?_ ?_ (fun _ _ _ h => h) ?_ (by assumption) ?_
                rotate_left
                · kernel_rfl
                · kernel_rfl
                · kernel_rfl
                · refine Or.inl (And.intro ?_ ?_)
                  · rfl
                  · intro w hSw
                    try dsimp only at hSw
                    first | (go_simp; done) | (go_simp; with_reducible rfl)
                simp only [List.setIfInBounds_toArray, List.set_cons_zero, List.set_cons_succ]
                refine takeD (i := 24) (v := ?_) 143 rfl rfl ?_ ?_ ?_ (fun _ _ _ h => h) ?_ (by assumption) ?_
                rotate_left
                · kernel_rfl
                · kernel_rfl
                · kernel_rfl
                · refine Or.inl (And.intro ?_ ?_)
                  · rfl
                  · intro w hSw
                    try dsimp only at hSw
                    first | (go_simp; done) | (go_simp; with_reducible rfl)
                simp only [List.setIfInBounds_toArray, List.set_cons_zero, List.set_cons_succ]
                refine wpAnyH_done (by kernel_rfl) ?_ _
                refine NoPanic.normal ?_
                clear hHeld
                go_wp2_with fail
                go_roundw
                case rel => exact ⟨m + 1, by omega, by go_num, HF.out.nw HN7.out⟩
                case measure => simp [intOf]; omega
            · obtain rfl : m = 4 := by omega
              rw [show (((4 : Nat)) : Int) = 4 from rfl]
              go_wp2_with fail
              refine (works_any _).mono ?_
              rintro e w5 ⟨rfl, hN⟩
              go_wp2_with fail
              go_ret
              exact ⟨rfl, (HF.out.n.trans hN).b⟩

end Go.Proofs.Ytdjncbfoecoedaa
