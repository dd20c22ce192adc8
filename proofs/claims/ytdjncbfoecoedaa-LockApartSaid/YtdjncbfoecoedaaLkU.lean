/-
  THE WALK OF LockQueue.
-/
import Derived.Test.YtdjncbfoecoedaaLkT
import Derived.Deep.RegionHeld3
namespace Go.Proofs.Ytdjncbfoecoedaa
open Go.RowKit Go.Shelf
set_option linter.unusedVariables false

def lenOf : Value → Nat
  | .slice _ n _ => n
  | _ => 0
theorem any_take_succ {xs : List Int} {m : Nat} (h : m < xs.length) (y : Int) : (xs.take (m + 1)).any (· == y) = ((xs.take m).any (· == y) || xs[m] == y) := by
  rw [List.take_succ_eq_append_getElem h, List.any_append]; simp
theorem QI.from {w : World} {t : Nat} {s : Nat → Lk} {came : List Int} {W : World} {a : Nat → Option Addr} {c : Nat → Nat} {ac : Option Addr} {cc : Nat} (h : QI w t s came W a c ac cc) {k : Nat} (e : s = oneQ k came) {s' : Nat → Lk} (e' : s' = s) : QI w t s' came W a c ac cc := e' ▸ h
theorem one_fit {k : Nat} {came : List Int} (h : came.length ≤ 1000000) : ∀ i, i < 70 → (oneQ k came i).q.length ≤ 1000000 := by
  intro i _
  unfold oneQ
  split
  · cases came with
    | nil => exact Nat.zero_le _
    | cons x r => simp at h ⊢; omega
  · exact Nat.zero_le _
theorem one_in {k : Nat} {came : List Int} (h : ∀ y ∈ came, 0 ≤ y ∧ y < 4) : ∀ i, i < 70 → ∀ y ∈ (oneQ k came i).q, 0 ≤ y ∧ y < 4 := by
  intro i _ y hy
  unfold oneQ at hy
  split at hy
  · cases came with
    | nil => cases hy
    | cons x r => exact h y (List.mem_cons_of_mem _ hy)
  · cases hy

theorem qi_new (w : World) (T : TypeId) (s : Nat → Lk) (hs : s = fun _ => freeLk) : QI w w.heap.size s [] (w.alloc (.cells (tabC 4) T)) (fun _ => none) (fun _ => 0) none 0 := by
  refine ⟨Nw.refl.alloc _, ?_, fun x hx => ?_, .inl ⟨rfl, rfl, rfl⟩, fun p hp => ?_, fun p hp => ?_⟩
  · rw [hs]; exact tat_new w 4 T
  · rcases hx with rfl | ⟨i, _, p, hp, _⟩
    · exact Nat.le_refl _
    · cases hp
  · cases hp
  · cases hp
set_option maxRecDepth 100000 in
set_option maxHeartbeats 8000000 in
theorem walk_queue (u : Nat) (hu : u ≤ 255) (a1 : Option Addr) (len1 cap1 : Nat) (zs : List Int) (hl : zs.length = len1) (hz : ∀ x ∈ zs, 0 ≤ x ∧ x ≤ 255) (w : World) (hI : Ints w.heap.size .u8 w a1 zs) :
    Calls Try.prog 4 #[.int .u8 u, .slice a1 len1 cap1] w fun e w' => e = .returned (.bool true) ∧ Below w.heap.size w w' := by
  by_cases hbig : 20 < len1
  · clear hz hI hl
    go_enter Try.func4, Try.ntmps4
    go_wp2_with fail
    refine (works_any _).mono ?_
    rintro e w1 ⟨rfl, hN⟩
    go_wp2_with fail
    go_ret
    exact ⟨rfl, hN.b⟩
  obtain ⟨i0, hi0, hz0, hz1, hz2⟩ := info_parts8 info_int
  have HI := Lib.hid hI
  have HZ := Lib.hid hz
  have HL := Lib.hid hl
  clear hI hz hl
  go_enter Try.func4, Try.ntmps4
  go_wp2_with fail
  refine (new_yes 4 (by omega) (by omega) w).mono ?_
  rintro e w1 ⟨rfl, rfl⟩
  obtain ⟨k, hk⟩ : ∃ k : Nat, u % 70 = k := ⟨_, rfl⟩
  have hk70 : k < 70 := by omega
  have HKK := Lib.hid (show ((u : Int) % 70) = (k : Int) by omega)
  have HQ0 := Lib.hid (qi_new w 49 (oneQ k []) (oneQ_nil k))
  obtain ⟨t, ht⟩ : ∃ t, w.heap.size = t := ⟨_, rfl⟩
  have HTT := Lib.hid ht
  rw [show QI w w.heap.size = QI w t from by rw [ht]] at HQ0
  rw [ht]
  generalize w.alloc (.cells (tabC 4) 49) = W1 at *
  clear ht hk
  go_wp2_with fail
  rw [HKK.out]
  go_loopw [9, 8] (fun i v wr => ∃ j : Nat, j ≤ len1 ∧ i = .int .i64 j ∧ ∃ (came : List Int) (a : Nat → Option Addr) (c : Nat → Nat) (ac : Option Addr) (cc : Nat), v = .slice ac came.length cc ∧ QI w t (oneQ k came) came wr a c ac cc ∧ came.Nodup ∧ (∀ y ∈ came, 0 ≤ y ∧ y < 4) ∧ came.length ≤ j) (fun i _ _ => len1 - (intOf i).toNat)
  case atStart => exact ⟨0, Nat.zero_le _, rfl, [], _, _, none, 0, rfl, HQ0.out, List.nodup_nil, (fun y hy => by cases hy), Nat.le_refl _⟩
  case round =>
    obtain ⟨j, hj, rfl, came, ta, tc, ac, cc, rfl, hq, hnd, hin, hcl⟩ := hrel
    have HQ := Lib.hid hq
    have HND := Lib.hid hnd
    have HIN := Lib.hid hin
    have hcap := hq.q.len
    clear hq hnd hin
    by_cases hlt : j < len1
    · obtain ⟨ob, oo, rfl, hob, g0⟩ := HI.out.at (j := j) (by rw [HL.out]; exact hlt)
      obtain ⟨z, hzz⟩ : ∃ z, zs[j]'(by rw [HL.out]; exact hlt) = z := ⟨_, rfl⟩
      obtain ⟨hzb0, hzb1⟩ := HZ.out (zs[j]'(by rw [HL.out]; exact hlt)) (List.getElem_mem _)
      rw [hzz] at g0 hzb0 hzb1
      replace g0 := (HQ.out.n.b.cell (p := ⟨ob, oo + j, none⟩) hob).trans g0
      obtain ⟨y, hy⟩ : ∃ y, z % 4 = y := ⟨_, rfl⟩
      have hy0 : 0 ≤ y := by omega
      have hy4 : y < 4 := by omega
      have HYZ := Lib.hid hy
      clear hzz hy
      go_wp2_with fail
      rw [HYZ.out]
      clear g0 hzb0 hzb1
      go_loopw [12, 11] (fun i v wq => ∃ (m : Nat) (b : Bool), m ≤ came.length ∧ i = .int .i64 m ∧ v = .bool b ∧ (came.take m).any (· == y) = b ∧ wq = wr) (fun i _ _ => came.length - (intOf i).toNat)
      case atStart => exact ⟨0, false, Nat.zero_le _, rfl, rfl, rfl, rfl⟩
      case round =>
        obtain ⟨m, b, hm, rfl, rfl, hb, rfl⟩ := hrel
        have HB := Lib.hid hb
        clear hb
        by_cases hml : m < came.length
        · have HS := Lib.hid (any_take_succ hml y)
          rw [HB.out] at HS
          obtain ⟨gb, go, rfl, _, hc⟩ := HQ.out.q.ints.at hml
          obtain ⟨v, hv⟩ : ∃ v, came[m] = v := ⟨_, rfl⟩
          rw [hv] at hc HS
          clear hv
          cases b
          · cases hvy : (v == y)
            · rw [hvy] at HS
              have hvy' : (v == y) = false := hvy
              clear hvy
              go_wp2_with fail
              go_roundw
              case rel => exact ⟨m + 1, false, by omega, by go_num, rfl, HS.out, trivial⟩
              case measure => simp [intOf]; omega
            · rw [hvy] at HS
              have hvy' : (v == y) = true := hvy
              clear hvy
              go_wp2_with fail
              go_roundw
              case rel => exact ⟨m + 1, true, by omega, by go_num, rfl, HS.out, trivial⟩
              case measure => simp [intOf]; omega
          · go_wp2_with fail
            go_roundw
            case rel => exact ⟨m + 1, true, by omega, by go_num, rfl, HS.out, trivial⟩
            case measure => simp [intOf]; omega
        · obtain rfl : m = came.length := by omega
          rw [List.take_length] at HB
          have HF := Lib.hid (one_fit (k := k) (came := came) (by omega))
          go_wp2_with fail
          refine (want_any t 4 (oneQ k came) ta tc HF.out y hy0 hy4 (by omega) k _ HQ.out.tt).mono ?_
          rintro e w2 ⟨rfl, a2, c2, hmv⟩
          cases b
          · have hny : y ∉ came := fun h => by
              have := HB.out
              rw [List.any_eq_false] at this
              exact this y h (by simp)
            have HNY := Lib.hid hny
            have HND2 := Lib.hid (show (came ++ [y]).Nodup from List.nodup_append.2 ⟨HND.out, List.nodup_cons.2 ⟨by simp, List.nodup_nil⟩, fun p hp q hq => by rw [List.mem_singleton.1 hq]; rintro rfl; exact hny hp⟩)
            have HIN2 := Lib.hid (show ∀ q ∈ came ++ [y], 0 ≤ q ∧ q < 4 from fun q hq => by
              rcases List.mem_append.1 hq with hq | hq
              · exact HIN.out q hq
              · rw [List.mem_singleton.1 hq]; exact ⟨hy0, hy4⟩)
            cases came with
            | nil =>
              rw [one_want_first hk70 hy0] at hmv ⊢
              have HQ2 := Lib.hid (HQ.out.moved hmv)
              clear hmv hny
              go_wp2_with (at_builtin; refine wpList_append_qu _ rfl (.tmp 96) (.tmp 98) 30 rfl 3 i0 Try.underlying30 hi0 hz0 hz1 hz2 ac cc [] rfl ((HQ2.out.nw (Nw.refl.alloc (.cells #[.int .i64 y] 3))).q) (by omega) ⟨w2.heap.size, 0, none⟩ 1 y rfl (by have := World.cell?_alloc_new w2 #[.int .i64 y] 3 0; rw [this]; rfl) ?_; intro ac2 cc2 w3 hq3 hu3 hf3; have HQ3 := Lib.hid ((HQ2.out.nw (Nw.refl.alloc (.cells #[.int .i64 y] 3))).turned hq3 hu3 hf3); clear hq3 hu3 hf3)
              go_roundw
              case rel => exact ⟨j + 1, by omega, by go_num, _, _, _, _, _, by simp, HQ3.out, HND2.out, HIN2.out, by first | (simp; done) | (simp at hcl ⊢; omega)⟩
              case measure => simp [intOf]; omega
            | cons x r =>
              have hxb := HIN.out x List.mem_cons_self
              rw [one_want_next hk70 hxb.1 hy0 hny] at hmv ⊢
              have HQ2 := Lib.hid (HQ.out.moved hmv)
              clear hmv hny hxb
              go_wp2_with (at_builtin; refine wpList_append_qu _ rfl (.tmp 96) (.tmp 98) 30 rfl 3 i0 Try.underlying30 hi0 hz0 hz1 hz2 ac cc (x :: r) rfl ((HQ2.out.nw (Nw.refl.alloc (.cells #[.int .i64 y] 3))).q) (by omega) ⟨w2.heap.size, 0, none⟩ 1 y rfl (by have := World.cell?_alloc_new w2 #[.int .i64 y] 3 0; rw [this]; rfl) ?_; intro ac2 cc2 w3 hq3 hu3 hf3; have HQ3 := Lib.hid ((HQ2.out.nw (Nw.refl.alloc (.cells #[.int .i64 y] 3))).turned hq3 hu3 hf3); clear hq3 hu3 hf3)
              go_roundw
              case rel => exact ⟨j + 1, by omega, by go_num, _, _, _, _, _, by simp, HQ3.out, HND2.out, HIN2.out, by first | (simp; done) | (simp at hcl ⊢; omega)⟩
              case measure => simp [intOf]; omega
          · have hym : y ∈ came := by
              have := HB.out
              rw [List.any_eq_true] at this
              obtain ⟨q, hq, he⟩ := this
              rw [beq_iff_eq] at he
              exact he ▸ hq
            cases came with
            | nil => exact absurd hym (by simp)
            | cons x r =>
              obtain ⟨gb, go, rfl, c0, _, _, _⟩ := HQ.out.q.first
              by_cases hyx : y = x
              · subst hyx
                rw [one_want_held hk70 y r] at hmv ⊢
                have HQ2 := Lib.hid (HQ.out.moved hmv)
                replace c0 := hmv.u.cell c0 (HQ.out.d _ rfl)
                have hxy : (y == y) = true := by simp
                clear hmv hym
                go_wp2_with fail
                go_roundw
                case rel => exact ⟨j + 1, by omega, by go_num, _, _, _, _, _, rfl, HQ2.out, HND.out, HIN.out, by omega⟩
                case measure => simp [intOf]; omega
              · have hyr : y ∈ r := (List.mem_cons.1 hym).resolve_left hyx
                rw [one_want_waits hk70 hy0 hyx hyr] at hmv ⊢
                have HQ2 := Lib.hid (HQ.out.moved hmv)
                replace c0 := hmv.u.cell c0 (HQ.out.d _ rfl)
                have hxy : (x == y) = false := by rw [beq_eq_false_iff_ne]; exact fun e => hyx e.symm
                clear hmv hyx hym hyr
                go_wp2_with fail
                go_roundw
                case rel => exact ⟨j + 1, by omega, by go_num, _, _, _, _, _, rfl, HQ2.out, HND.out, HIN.out, by omega⟩
                case measure => simp [intOf]; omega
    · obtain rfl : j = len1 := by omega
      have HF0 := Lib.hid (one_fit (k := k) (came := came) (by omega))
      have hcl20 : came.length ≤ 20 := by omega
      clear HF0
      go_wp2_with fail
      go_loopw [8] (fun v wq => ∃ (came : List Int) (a : Nat → Option Addr) (c : Nat → Nat) (ac : Option Addr) (cc : Nat), v = .slice ac came.length cc ∧ QI w t (oneQ k came) came wq a c ac cc ∧ came.Nodup ∧ (∀ y ∈ came, 0 ≤ y ∧ y < 4) ∧ came.length ≤ 20) (fun v _ => lenOf v)
      case atStart => exact ⟨came, ta, tc, ac, cc, rfl, HQ.out, HND.out, HIN.out, hcl20⟩
      case round =>
        clear HQ HND HIN hcap
        obtain ⟨came, ta, tc, ac, cc, rfl, hq, hnd, hin, hcl⟩ := hrel
        have HQ := Lib.hid hq
        have HND := Lib.hid hnd
        have HIN := Lib.hid hin
        have hcap := hq.q.len
        have HF := Lib.hid (one_fit (k := k) (came := came) (by omega))
        have HE := Lib.hid (one_in (k := k) hin)
        clear hq hnd hin
        cases came with
        | nil =>
          have HC := Lib.hid (queue_any t 4 (oneQ k []) ta tc k hk70 (HF.out k hk70) wr HQ.out.tt)
          rw [show (oneQ k [] k).q = [] from by rw [oneQ_nil]; rfl] at HC
          go_wp2_with fail
          refine HC.out.mono ?_
          rintro e w2 ⟨a', c', rfl, _, hn, _⟩
          have HN2 := Lib.hid (HQ.out.n.trans hn)
          clear hn
          go_wp2_with (go_at_call 6; refine (works_any _).mono ?_; rintro e w' ⟨rfl, hN⟩; have HN3 := Lib.hid (HN2.out.trans hN); clear hN)
          go_ret
          exact ⟨rfl, HN3.out.b⟩
        | cons x r =>
          have hxr : x ∉ r := (List.nodup_cons.1 HND.out).1
          have hxb := HIN.out x List.mem_cons_self
          have HG := Lib.hid (one_give hk70 hxb.1 hxr)
          have HH := Lib.hid (fun W (h : TAt W t 4 (oneQ k (x :: r)) ta tc) => holds_any t 4 (oneQ k (x :: r)) ta tc x hxb.1 hxb.2 k hk70 W h)
          rw [show ((oneQ k (x :: r) k).h == x + 1) = true from by rw [oneQ_at]; simp] at HH
          have HC := Lib.hid (fun W (h : TAt W t 4 (oneQ k (x :: r)) ta tc) => queue_any t 4 (oneQ k (x :: r)) ta tc k hk70 (HF.out k hk70) W h)
          rw [show (oneQ k (x :: r) k).q = r from by rw [oneQ_at]] at HC
          obtain ⟨gb, go, rfl, c0, hc1, hrc, hmx⟩ := HQ.out.q.first
          have hcm : (cc : Int) ≤ 9223372036854775807 := by unfold maxLen at hmx; omega
          have HMX := Lib.hid hmx
          clear hxr hmx
          have HQD := Lib.hid (HQ.out.nw Nw.refl.drew)
          have HTL := Lib.hid HQD.out.tail
          obtain ⟨rl, hrl⟩ : ∃ rl, r.length = rl := ⟨_, rfl⟩
          have HRL := Lib.hid hrl
          rw [List.length_cons, hrl]
          rw [hrl] at hrc
          simp only [List.length_cons, hrl] at hcl
          have HC' : Hid (∀ W, TAt W t 4 (oneQ k (x :: r)) ta tc → Calls Try.prog 14 #[.pointer (some ⟨t, 0, none⟩), .int .i64 (k : Int)] W fun e w' => ∃ aq cq, e = .returned (.slice aq rl cq) ∧ Ints w'.heap.size .i64 w' aq r ∧ Nw W w') := Lib.hid (fun W h => (HC.out W h).mono fun e w' ⟨aq, cq, h1, h2, h3, _⟩ => ⟨aq, cq, by rw [h1, hrl], h2, h3⟩)
          have HSM : Hid (∀ (B : Nat) (W : World) (a1 a2 : Option Addr) (c1 c2 : Nat), Ints B .i64 W a1 r → Ints B .i64 W a2 r → Calls Try.prog 13 #[.slice a1 rl c1, .slice a2 rl c2] W (Yes true W)) := Lib.hid (fun B W a1 a2 c1 c2 h1 h2 => by have := same_yes a1 a2 c1 c2 r r rfl (by omega) B W h1 h2; rwa [hrl] at this)
          have hq1 : (1 : Int) ≤ (rl : Int) + 1 := by omega
          have hq2 : (rl : Int) + 1 ≤ (cc : Int) := by omega
          have hq3 : 1 ≤ rl + 1 := by omega
          have hq6 : (0 : Int) ≤ (rl : Int) := by omega
          have hq7 : ((rl : Int) + 1).toNat = rl + 1 := by omega
          clear hrl
          obtain rfl | hc2 : cc = 1 ∨ 1 < cc := by omega
          · obtain ⟨rfl, hq0⟩ := HTL.out.2 rfl
            have HT1 := Lib.hid hq0
            obtain rfl : rl = 0 := by rw [← HRL.out]; rfl
            clear hq0
            go_wp2_with fail
            go_region_held3 (fun w' => w'.cell? ⟨gb, go, none⟩ = some (.int .i64 x) ∧ Nw wr w')
              (first | (exact ⟨c0, Nw.refl.drew⟩) | (exact ⟨(hN7.b.cell (p := ⟨gb, go, none⟩) (cell_lt c0).1).trans c0, hN7⟩) | (exact ⟨(hN5.b.cell (p := ⟨gb, go, none⟩) (cell_lt c0).1).trans c0, hN5⟩))
              ((first
                | (go_at_call 12; refine (HH.out _ HQD.out.tt).mono ?_; rintro e w5 ⟨rfl, rfl⟩)
                | (go_at_call 14; refine (HC'.out _ HQD.out.tt).mono ?_; rintro e w5 ⟨aq, cq, rfl, hIq, hnq⟩; have HIQ := Lib.hid hIq; have hN5 := Nw.refl.drew.trans hnq; have HT5 := Lib.hid (HT1.out.nw hnq); clear hIq hnq)
                | (go_at_call 13; refine (HSM.out _ _ _ _ _ _ HIQ.out HT5.out.q.ints).mono ?_; rintro e w6 ⟨rfl, hn6⟩; have hN7 := hN5.trans hn6; clear hn6)))
            go_wp2_with fail
            have HQ7 := Lib.hid (HQ.out.nw hN7)
            replace c0 := (hN7.b.cell (p := ⟨gb, go, none⟩) (cell_lt c0).1).trans c0
            refine (give_any t 4 (oneQ k [x]) ta tc HF.out HE.out x hxb.1 hxb.2 (by omega) _ HQ7.out.tt).mono ?_
            rintro e w8 ⟨ax, cx, rfl, hIg, hcx, a8, c8, hm⟩
            rw [HG.out.1] at hm
            rw [HG.out.2] at hIg ⊢
            have HQ8 := Lib.hid (HQ7.out.moved hm)
            have HIG := Lib.hid hIg
            clear hIg hm hcx
            have HT8 := Lib.hid ((HQ8.out.tail.2 rfl).2)
            go_wp2_with fail
            go_roundw
            case rel => exact ⟨[], a8, c8, _, _, rfl, HT8.out, List.nodup_nil, (fun y hy => by cases hy), Nat.zero_le _⟩
            case measure => simp [lenOf]
          · have hc3 : ¬ cc = 1 := by omega
            have HT1 := Lib.hid (HTL.out.1 hc2)
            go_wp2_with fail
            go_region_held3 (fun w' => w'.cell? ⟨gb, go, none⟩ = some (.int .i64 x) ∧ Nw wr w')
              (first | (exact ⟨c0, Nw.refl.drew⟩) | (exact ⟨(hN7.b.cell (p := ⟨gb, go, none⟩) (cell_lt c0).1).trans c0, hN7⟩) | (exact ⟨(hN5.b.cell (p := ⟨gb, go, none⟩) (cell_lt c0).1).trans c0, hN5⟩))
              ((first
                | (go_at_call 12; refine (HH.out _ HQD.out.tt).mono ?_; rintro e w5 ⟨rfl, rfl⟩)
                | (go_at_call 14; refine (HC'.out _ HQD.out.tt).mono ?_; rintro e w5 ⟨aq, cq, rfl, hIq, hnq⟩; have HIQ := Lib.hid hIq; have hN5 := Nw.refl.drew.trans hnq; have HT5 := Lib.hid (HT1.out.nw hnq); clear hIq hnq)
                | (go_at_call 13; refine (HSM.out _ _ _ _ _ _ HIQ.out HT5.out.q.ints).mono ?_; rintro e w6 ⟨rfl, hn6⟩; have hN7 := hN5.trans hn6; clear hn6)))
            go_wp2_with fail
            have HQ7 := Lib.hid (HQ.out.nw hN7)
            replace c0 := (hN7.b.cell (p := ⟨gb, go, none⟩) (cell_lt c0).1).trans c0
            refine (give_any t 4 (oneQ k (x :: r)) ta tc HF.out HE.out x hxb.1 hxb.2 (by omega) _ HQ7.out.tt).mono ?_
            rintro e w8 ⟨ax, cx, rfl, hIg, hcx, a8, c8, hm⟩
            rw [HG.out.1] at hm
            rw [HG.out.2] at hIg ⊢
            have HQ8 := Lib.hid (HQ7.out.moved hm)
            have HIG := Lib.hid hIg
            clear hIg hm hcx
            have HT8 := Lib.hid (HQ8.out.tail.1 hc2)
            have HND2 := Lib.hid (List.nodup_cons.1 HND.out).2
            have HIN2 := Lib.hid (fun y hy => HIN.out y (List.mem_cons_of_mem _ hy))
            cases r with
            | nil =>
              obtain rfl : rl = 0 := by rw [← HRL.out]; rfl
              go_wp2_with fail
              go_roundw
              case rel => exact ⟨[], a8, c8, _, _, rfl, HT8.out, List.nodup_nil, (fun y hy => by cases hy), Nat.zero_le _⟩
              case measure => simp [lenOf]
            | cons y r2 =>
              have hrl2 : 1 ≤ rl := by rw [← HRL.out]; simp
              have HI1 := Lib.hid (show Ints w8.heap.size .i64 w8 ax [y] from HIG.out)
              have HI2 := Lib.hid (show Ints w8.heap.size .i64 w8 (some ⟨gb, go + 1, none⟩) [y] from HT8.out.q.ints.take 1)
              have HSM1 := Lib.hid (show Calls Try.prog 13 #[.slice ax 1 cx, .slice (some ⟨gb, go + 1, none⟩) 1 (cc - 1)] w8 (Yes true w8) from same_yes _ _ _ _ [y] [y] rfl (by simp) _ _ HI1.out HI2.out)
              rw [show (List.take 1 (y :: r2)).length = 1 from rfl]
              have hd1 : ((rl : Int) + 1 == 1) = false := by rw [beq_eq_false_iff_ne]; omega
              have hd0 : ¬ (rl : Int) + 1 = 1 := by omega
              have hd2 : (1 : Int) < (rl : Int) + 1 := by omega
              have hd3 : (2 : Int) ≤ (cc : Int) := by omega
              go_wp2_with (go_at_call 13; refine HSM1.out.mono ?_; rintro e w9 ⟨rfl, hn9⟩; have HN9 := Lib.hid hn9; clear hn9)
              go_roundw
              case rel => exact ⟨y :: r2, a8, c8, _, _, by rw [HRL.out], HT8.out.nw HN9.out, HND2.out, HIN2.out, by rw [HRL.out]; omega⟩
              case measure => simp [lenOf]

end Go.Proofs.Ytdjncbfoecoedaa
