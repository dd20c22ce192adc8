/-
  THE WALK OF LockGoes.
-/
import Derived.Test.YtdjncbfoecoedaaLkR
namespace Go.Proofs.Ytdjncbfoecoedaa
open Go.RowKit Go.Shelf
set_option linter.unusedVariables false

theorem u8_of_wf' {n : Int} (h : (Lit.int .u8 n).wf = true) : 0 ≤ n ∧ n ≤ 255 := by
  simp [Lit.wf, IntKind.min, IntKind.max, IntKind.bits, IntKind.signed] at h
  omega
def whoI (n : Int) (x : Int) : Int := (max x 0) % n
def stepS (n : Int) (s : Nat → Lk) (x : St) : Nat → Lk := if x.g then giveS s (whoI n x.x) else (wantS s (whoI n x.x) x.l).1
def stepsS (n : Int) (l : List St) : Nat → Lk := l.foldl (stepS n) (fun _ => freeLk)
theorem stepsS_succ (n : Int) (l : List St) (k : Nat) (h : k < l.length) : stepsS n (l.take (k + 1)) = stepS n (stepsS n (l.take k)) l[k] := by
  unfold stepsS
  rw [List.take_succ_eq_append_getElem h, List.foldl_append]; rfl
theorem who_in {n : Int} (hn : 0 < n) (x : Int) : 0 ≤ whoI n x ∧ whoI n x < n := ⟨Int.emod_nonneg _ (by omega), Int.emod_lt_of_pos _ hn⟩
theorem steps_ok {n : Int} (hn : 0 < n) (l : List St) : Ok (stepsS n l) n ∧ Fit (stepsS n l) l.length := by
  unfold stepsS
  suffices ∀ (s : Nat → Lk) (k : Nat), Ok s n → Fit s k → Ok (l.foldl (stepS n) s) n ∧ Fit (l.foldl (stepS n) s) (k + l.length) by
    have := this (fun _ => freeLk) 0 (ok_start n (by omega)) fit_start
    rwa [Nat.zero_add] at this
  induction l with
  | nil => intro s k h1 h2; exact ⟨h1, h2⟩
  | cons x l ih =>
    intro s k h1 h2
    have hw := who_in hn x.x
    have : Ok (stepS n s x) n ∧ Fit (stepS n s x) (k + 1) := by
      unfold stepS
      split
      · exact ⟨ok_give h1 _, (fit_give h2 _).mono (by omega)⟩
      · exact ⟨ok_want h1 _ hw.1 hw.2 _, fit_want h2 _ _⟩
    have := ih (stepS n s x) (k + 1) this.1 this.2
    rw [List.length_cons, show k + (l.length + 1) = k + 1 + l.length by omega]
    exact this
theorem fit_step {s : Nat → Lk} {k : Nat} (h : Fit s k) (x : Int) : Fit (stepG s x) k := by
  unfold stepG; split
  · exact h
  · exact fit_give h x
theorem fit_turn {s : Nat → Lk} {k : Nat} (h : Fit s k) : ∀ m, Fit (turn s m) k
  | 0 => h
  | m + 1 => fit_step (fit_turn h m) m
theorem fit_turns {s : Nat → Lk} {k n : Nat} (h : Fit s k) : ∀ r, Fit (turns s n r) k
  | 0 => h
  | r + 1 => fit_turn (fit_turns h r) n

set_option maxRecDepth 100000 in
set_option maxHeartbeats 8000000 in
theorem walk_goes (u : Nat) (hu : u ≤ 255) (a0 : Option Addr) (len0 cap0 : Nat) (l : List St) (hl : l.length = len0) (hok : ∀ x ∈ l, stOk x) (w : World) (hI : Recs stC 3 w.heap.size w a0 l) :
    Calls Try.prog 3 #[.int .u8 u, .slice a0 len0 cap0] w fun e w' => e = .returned (.bool true) ∧ Below w.heap.size w w' := by
  by_cases hbig : 200 < len0
  · clear hok hI hl
    go_enter Try.func3, Try.ntmps3
    go_wp2_with fail
    refine (works_any _).mono ?_
    rintro e w1 ⟨rfl, hN⟩
    go_wp2_with fail
    go_ret
    exact ⟨rfl, hN.b⟩
  have HI := Lib.hid hI
  have HK := Lib.hid hok
  have HL := Lib.hid hl
  clear hI hok hl
  go_enter Try.func3, Try.ntmps3
  go_wp2_with fail
  obtain ⟨n, hn⟩ : ∃ n : Nat, 1 + u % 4 = n := ⟨_, rfl⟩
  have hn1 : 1 ≤ n := by omega
  have hn4 : n ≤ 4 := by omega
  rw [show (1 + (u : Int) % 4) = ((n : Nat) : Int) from by omega]
  clear hn
  refine (new_yes n (by omega) (by omega) w).mono ?_
  rintro e w1 ⟨rfl, rfl⟩
  have HM0 := Lib.hid (Moved.nw (tat_new w n 49) Nw.refl)
  have HN0 := Lib.hid ((Nw.refl (w := w)).alloc (.cells (tabC n) 49))
  obtain ⟨t, ht⟩ : ∃ t, w.heap.size = t := ⟨_, rfl⟩
  have HTT := Lib.hid ht
  rw [ht] at HM0 ⊢
  generalize w.alloc (.cells (tabC n) 49) = W1 at *
  clear ht
  go_wp2_with fail
  go_loopw [8] (fun i wr => ∃ k : Nat, k ≤ len0 ∧ i = .int .i64 k ∧ ∃ a' c', Moved W1 t n (fun _ => none) (stepsS n (l.take k)) a' c' wr) (fun i _ => len0 - (intOf i).toNat)
  case atStart => exact ⟨0, Nat.zero_le _, rfl, _, _, HM0.out⟩
  case round =>
    obtain ⟨k, hk, rfl, a1, c1, hm⟩ := hrel
    have HM := Lib.hid hm
    have HOKS := Lib.hid (steps_ok (n := n) (by omega) (l.take k))
    have HF := Lib.hid (HOKS.out.2.mono (m := 1000000) (by rw [List.length_take]; omega))
    clear hm
    by_cases hlt : k < len0
    · have hkl : k < l.length := by rw [HL.out]; exact hlt
      obtain ⟨ib, io, rfl, hib, g0, g1, g2⟩ := steps_at HI.out hkl
      have HSU := Lib.hid (stepsS_succ n l k hkl)
      have HOK1 := Lib.hid (steps_ok (n := n) (by omega) (l.take (k + 1)))
      obtain ⟨hxb, hlb⟩ := HK.out _ (List.getElem_mem hkl)
      obtain ⟨x, hx⟩ : ∃ x, l[k] = x := ⟨_, rfl⟩
      rw [hx] at g0 g1 g2 HSU hxb hlb
      have HB := Lib.hid (HM.out.made HN0.out (by rw [HTT.out]; exact Nat.le_refl _))
      replace g0 := (HB.out.b.cell (p := ⟨ib, io + k * 3, none⟩) hib).trans g0
      replace g1 := (HB.out.b.cell (p := ⟨ib, io + k * 3 + 1, none⟩) hib).trans g1
      replace g2 := (HB.out.b.cell (p := ⟨ib, io + k * 3 + 2, none⟩) hib).trans g2
      have HWH := Lib.hid (who_in (n := n) (by omega) x.x)
      have hn0 : ¬ ((n : Int) = 0) := by omega
      clear hx
      cases hg : x.g
      · rw [hg] at g0
        have HG := Lib.hid hg
        clear hg
        by_cases hx0 : 0 ≤ x.x
        · have HY := Lib.hid (show x.x % (n : Int) = whoI n x.x from by unfold whoI; rw [Int.max_eq_left hx0])
          obtain ⟨y, hy⟩ : ∃ y, whoI n x.x = y := ⟨_, rfl⟩
          rw [hy] at HY HWH
          have HYY := Lib.hid hy
          clear hy
          go_wp2_with fail
          rw [HY.out]
          refine (want_any t n _ a1 c1 HF.out y HWH.out.1 HWH.out.2 (by omega) x.l _ HM.out.tt).mono ?_
          rintro e w2 ⟨rfl, a2, c2, hm⟩
          have HM2 := Lib.hid (show Moved W1 t n _ (stepsS n (l.take (k + 1))) a2 c2 w2 from by
            rw [HSU.out, stepS, HG.out, if_neg (by simp), HYY.out]; exact HM.out.then hm)
          clear hm
          have HS2 := Lib.hid (ok_sound HOK1.out.1)
          have HF2 := Lib.hid (HOK1.out.2.mono (m := 1000000) (by rw [List.length_take]; omega))
          go_wp2_with fail
          refine (sound_any t n hn4 _ a2 c2 HF2.out HS2.out _ HM2.out.tt).mono ?_
          rintro e w3 ⟨rfl, hN⟩
          have HM3 := Lib.hid (HM2.out.nw2 hN)
          clear hN
          go_wp2_with fail
          go_roundw
          case rel => exact ⟨k + 1, by omega, by go_num, a2, c2, HM3.out⟩
          case measure => simp [intOf]; omega
        · have HY := Lib.hid (show (0 : Int) = whoI n x.x from by unfold whoI; rw [Int.max_eq_right (by omega)]; simp)
          have hx1 : x.x < 0 := by omega
          obtain ⟨y, hy⟩ : ∃ y, whoI n x.x = y := ⟨_, rfl⟩
          rw [hy] at HY HWH
          have HYY := Lib.hid hy
          clear hy
          go_wp2_with fail
          obtain rfl : 0 = y := HY.out
          refine (want_any t n _ a1 c1 HF.out 0 HWH.out.1 HWH.out.2 (by omega) x.l _ HM.out.tt).mono ?_
          rintro e w2 ⟨rfl, a2, c2, hm⟩
          have HM2 := Lib.hid (show Moved W1 t n _ (stepsS n (l.take (k + 1))) a2 c2 w2 from by
            rw [HSU.out, stepS, HG.out, if_neg (by simp), HYY.out]; exact HM.out.then hm)
          clear hm
          have HS2 := Lib.hid (ok_sound HOK1.out.1)
          have HF2 := Lib.hid (HOK1.out.2.mono (m := 1000000) (by rw [List.length_take]; omega))
          go_wp2_with fail
          refine (sound_any t n hn4 _ a2 c2 HF2.out HS2.out _ HM2.out.tt).mono ?_
          rintro e w3 ⟨rfl, hN⟩
          have HM3 := Lib.hid (HM2.out.nw2 hN)
          clear hN
          go_wp2_with fail
          go_roundw
          case rel => exact ⟨k + 1, by omega, by go_num, a2, c2, HM3.out⟩
          case measure => simp [intOf]; omega
      · rw [hg] at g0
        have HG := Lib.hid hg
        clear hg
        by_cases hx0 : 0 ≤ x.x
        · have HY := Lib.hid (show x.x % (n : Int) = whoI n x.x from by unfold whoI; rw [Int.max_eq_left hx0])
          obtain ⟨y, hy⟩ : ∃ y, whoI n x.x = y := ⟨_, rfl⟩
          rw [hy] at HY HWH
          have HYY := Lib.hid hy
          clear hy
          go_wp2_with fail
          rw [HY.out]
          refine (give_any t n _ a1 c1 HF.out (HOKS.out.1.e4 (by omega)) y HWH.out.1 HWH.out.2 (by omega) _ HM.out.tt).mono ?_
          rintro e w2 ⟨ax, cx, rfl, hI, hcx, a2, c2, hm⟩
          have HM2 := Lib.hid (show Moved W1 t n _ (stepsS n (l.take (k + 1))) a2 c2 w2 from by
            rw [HSU.out, stepS, HG.out, if_pos rfl, HYY.out]; exact HM.out.then hm)
          clear hm hI hcx
          have HS2 := Lib.hid (ok_sound HOK1.out.1)
          have HF2 := Lib.hid (HOK1.out.2.mono (m := 1000000) (by rw [List.length_take]; omega))
          go_wp2_with fail
          refine (sound_any t n hn4 _ a2 c2 HF2.out HS2.out _ HM2.out.tt).mono ?_
          rintro e w3 ⟨rfl, hN⟩
          have HM3 := Lib.hid (HM2.out.nw2 hN)
          clear hN
          go_wp2_with fail
          go_roundw
          case rel => exact ⟨k + 1, by omega, by go_num, a2, c2, HM3.out⟩
          case measure => simp [intOf]; omega
        · have HY := Lib.hid (show (0 : Int) = whoI n x.x from by unfold whoI; rw [Int.max_eq_right (by omega)]; simp)
          have hx1 : x.x < 0 := by omega
          obtain ⟨y, hy⟩ : ∃ y, whoI n x.x = y := ⟨_, rfl⟩
          rw [hy] at HY HWH
          have HYY := Lib.hid hy
          clear hy
          go_wp2_with fail
          obtain rfl : 0 = y := HY.out
          refine (give_any t n _ a1 c1 HF.out (HOKS.out.1.e4 (by omega)) 0 HWH.out.1 HWH.out.2 (by omega) _ HM.out.tt).mono ?_
          rintro e w2 ⟨ax, cx, rfl, hI, hcx, a2, c2, hm⟩
          have HM2 := Lib.hid (show Moved W1 t n _ (stepsS n (l.take (k + 1))) a2 c2 w2 from by
            rw [HSU.out, stepS, HG.out, if_pos rfl, HYY.out]; exact HM.out.then hm)
          clear hm hI hcx
          have HS2 := Lib.hid (ok_sound HOK1.out.1)
          have HF2 := Lib.hid (HOK1.out.2.mono (m := 1000000) (by rw [List.length_take]; omega))
          go_wp2_with fail
          refine (sound_any t n hn4 _ a2 c2 HF2.out HS2.out _ HM2.out.tt).mono ?_
          rintro e w3 ⟨rfl, hN⟩
          have HM3 := Lib.hid (HM2.out.nw2 hN)
          clear hN
          go_wp2_with fail
          go_roundw
          case rel => exact ⟨k + 1, by omega, by go_num, a2, c2, HM3.out⟩
          case measure => simp [intOf]; omega
    · obtain rfl : k = len0 := by omega
      have hm := HM.out
      have hok := HOKS.out
      rw [List.take_of_length_le (by rw [HL.out]; omega)] at hm hok
      have HM2 := Lib.hid hm
      have HOK2 := Lib.hid hok.1
      have HF2 := Lib.hid (hok.2.mono (m := 1000000) (by rw [HL.out]; omega))
      clear hm hok HM HOKS HF
      generalize stepsS n l = s at *
      go_wp2_with fail
      go_loopw [10] (fun i wr => ∃ r : Nat, r ≤ n + 1 ∧ i = .int .i64 r ∧ ∃ a' c', Moved W1 t n (fun _ => none) (turns s n r) a' c' wr) (fun i _ => n + 1 - (intOf i).toNat)
      case atStart => exact ⟨0, Nat.zero_le _, rfl, _, _, HM2.out⟩
      case round =>
        clear HM2
        obtain ⟨r, hr, rfl, a2, c2, hm⟩ := hrel
        have HM := Lib.hid hm
        clear hm
        by_cases hrn : r < n + 1
        · have HOKR := Lib.hid (ok_turns HOK2.out r)
          have HFR := Lib.hid (fit_turns (n := n) HF2.out r)
          have HTS : Hid (turns s n (r + 1) = turn (turns s n r) n) := rfl
          generalize turns s n r = s2 at *
          go_wp2_with fail
          rw [show decide (r ≤ n) = true from decide_eq_true (by omega)]
          go_loopw [11] (fun i wq => ∃ y : Nat, y ≤ n ∧ i = .int .i64 y ∧ ∃ a' c', Moved W1 t n (fun _ => none) (turn s2 y) a' c' wq) (fun i _ => n - (intOf i).toNat)
          case atStart => exact ⟨0, Nat.zero_le _, rfl, _, _, HM.out⟩
          case round =>
            clear HM
            obtain ⟨y, hy, rfl, a3, c3, hm⟩ := hrel
            have HM := Lib.hid hm
            clear hm
            by_cases hyn : y < n
            · have HOKY := Lib.hid (ok_turn HOKR.out y)
              have HFY := Lib.hid (fit_turn HFR.out y)
              have HS2 := Lib.hid (ok_sound (ok_turn HOKR.out (y + 1)))
              have HF3 := Lib.hid (fit_turn HFR.out (y + 1))
              have HTT1 : Hid (turn s2 (y + 1) = if (waitsAt (turn s2 y) (y : Nat) 70).isSome = true then turn s2 y else giveS (turn s2 y) (y : Nat)) := rfl
              obtain ⟨s4, hs4⟩ : ∃ s4, turn s2 (y + 1) = s4 := ⟨_, rfl⟩
              rw [hs4] at HS2 HF3 HTT1
              have HS4 := Lib.hid hs4
              clear hs4
              generalize turn s2 y = s3 at *
              have HW := Lib.hid (waits_any t n s3 a3 c3 HFY.out y wr HM.out.tt)
              go_wp2_with fail
              cases hw : waitsAt s3 (y : Nat) 70 with
              | none =>
                have HT1 := Lib.hid (HTT1.out.trans (if_neg (by rw [hw]; simp)))
                rw [hw] at HW
                clear hw
                refine HW.out.mono ?_
                rintro e w2 ⟨rfl, hn⟩
                have HM5 := Lib.hid (HM.out.nw2 hn)
                clear hn
                go_wp2_with fail
                refine (give_any t n s3 a3 c3 HFY.out (HOKY.out.e4 (by omega)) y (by omega) (by omega) (by omega) _ HM5.out.tt).mono ?_
                rintro e w4 ⟨ax, cx, rfl, hI, hcx, a4, c4, hm⟩
                have HM6 := Lib.hid (show Moved W1 t n _ s4 a4 c4 w4 from by rw [HT1.out]; exact HM5.out.then hm)
                clear hm hI hcx
                go_wp2_with fail
                refine (sound_any t n hn4 s4 a4 c4 HF3.out HS2.out _ HM6.out.tt).mono ?_
                rintro e w5 ⟨rfl, hN⟩
                have HM7 := Lib.hid (HM6.out.nw2 hN)
                clear hN
                go_wp2_with fail
                go_roundw
                case rel => exact ⟨y + 1, by omega, by go_num, a4, c4, by rw [HS4.out]; exact HM7.out⟩
                case measure => simp [intOf]; omega
              | some m =>
                have HT1 := Lib.hid (HTT1.out.trans (if_pos (by rw [hw]; rfl)))
                rw [hw] at HW
                clear hw
                refine HW.out.mono ?_
                rintro e w2 ⟨rfl, hn⟩
                have HM6 := Lib.hid (show Moved W1 t n _ s4 a3 c3 w2 from by rw [HT1.out]; exact HM.out.nw2 hn)
                clear hn
                go_wp2_with fail
                refine (sound_any t n hn4 s4 a3 c3 HF3.out HS2.out _ HM6.out.tt).mono ?_
                rintro e w5 ⟨rfl, hN⟩
                have HM7 := Lib.hid (HM6.out.nw2 hN)
                clear hN
                go_wp2_with fail
                go_roundw
                case rel => exact ⟨y + 1, by omega, by go_num, a3, c3, by rw [HS4.out]; exact HM7.out⟩
                case measure => simp [intOf]; omega
            · obtain rfl : y = n := by omega
              go_wp2_with fail
              go_roundw
              case rel => exact ⟨r + 1, by omega, by go_num, a3, c3, by rw [HTS.out]; exact HM.out⟩
              case measure => simp [intOf]; omega
        · obtain rfl : r = n + 1 := by omega
          have HALL := Lib.hid (fun y hy => all_come HOK2.out y hy)
          have HFR := Lib.hid (fit_turns (n := n) HF2.out (n + 1))
          generalize turns s n (n + 1) = s2 at *
          go_wp2_with fail
          rw [show (((n + 1 : Nat)) : Int) = (n : Int) + 1 from by omega]
          rw [show decide ((n : Int) + 1 ≤ (n : Int)) = false from decide_eq_false (by omega)]
          go_loopw [14] (fun i wq => ∃ y : Nat, y ≤ n ∧ i = .int .i64 y ∧ ∃ a' c', Moved W1 t n (fun _ => none) s2 a' c' wq) (fun i _ => n - (intOf i).toNat)
          case atStart => exact ⟨0, Nat.zero_le _, rfl, _, _, HM.out⟩
          case round =>
            clear HM
            obtain ⟨y, hy, rfl, a3, c3, hm⟩ := hrel
            have HM := Lib.hid hm
            clear hm
            by_cases hyn : y < n
            · have HW := Lib.hid (waits_any t n s2 a3 c3 HFR.out y wr HM.out.tt)
              rw [HALL.out y hyn] at HW
              go_wp2_with fail
              refine HW.out.mono ?_
              rintro e w2 ⟨rfl, hn⟩
              have HM6 := Lib.hid (HM.out.nw2 hn)
              clear hn
              go_wp2_with fail
              go_roundw
              case rel => exact ⟨y + 1, by omega, by go_num, a3, c3, HM6.out⟩
              case measure => simp [intOf]; omega
            · obtain rfl : y = n := by omega
              have HB := Lib.hid (HM.out.made HN0.out (by rw [HTT.out]; exact Nat.le_refl _))
              go_wp2_with fail
              refine (works_any _).mono ?_
              rintro e w5 ⟨rfl, hN⟩
              go_wp2_with fail
              go_ret
              exact ⟨rfl, (HB.out.trans hN).b⟩

end Go.Proofs.Ytdjncbfoecoedaa
