/-
  THE WALK OF grommetref08.May.
-/
import Derived.Test.YtkopfnldgnkkoaaGreatRdH
import Derived.Test.YtkopfnldgnkkoaaGreatLyG
namespace Go.Proofs.YtkopfnldgnkkoaaGreat
open Go.RowKit Go.Shelf
set_option linter.unusedVariables false

/-- No word among the first j of the i-th's. -/
def apartTo (l : List Wr) (i j : Nat) : Bool := (List.range j).all fun m => atW l m != atW l i
theorem apartTo_succ (l : List Wr) (i j : Nat) : apartTo l i (j + 1) = (apartTo l i j && (atW l j != atW l i)) := by simp [apartTo, List.range_succ]
theorem apartTo_self (l : List Wr) (i : Nat) : apartTo l i i = apart l i := rfl
theorem apart_false {l : List Wr} {i j : Nat} (hj : j < i) (h : (atW l j != atW l i) = false) : apart l i = false := by
  rw [Bool.eq_false_iff]; intro hh
  have := List.all_eq_true.1 hh j (List.mem_range.2 hj)
  rw [h] at this; cases this

set_option maxRecDepth 100000 in
set_option maxHeartbeats 4000000 in
theorem rrmay_any (g : G) (a : Option Addr) (cap n₀ : Nat) (l : List Wr) (w : World) (hn₀ : n₀ ≤ w.heap.size) (hI : Pairs .i64 .u64 n₀ w a l) (hreach : l.length ≤ 9223372036854775807) :
    Calls Tryz.prog 60 #[gV g, .slice a l.length cap] w fun e w' => e = .returned (.bool (mayW g l)) ∧ Nw w w' := by
  obtain ⟨n, hn⟩ : ∃ n, l.length = n := ⟨_, rfl⟩
  have HN := Lib.hid hn
  rw [hn] at hreach ⊢
  have B0 := Box.new w g 28
  have b0 := B0.c0
  have b1 := B0.c1
  have b2 := B0.c2
  obtain ⟨m, hm⟩ : ∃ m, mayB g = m := ⟨_, rfl⟩
  have HM := Lib.hid hm
  unfold gV
  go_enter Tryz.func60, Tryz.ntmps60
  go_wp2_with fail
  refine (rmay_any g At.refl).mono ?_
  rintro e w1 ⟨rfl, h1⟩
  rw [hm]
  have h01 := (At.refl.alloc _).trans h1
  have B1 := B0.at h1
  clear b0 b1 b2 B0 h1 hm
  cases m with
  | false =>
    go_wp2_with fail
    go_ret
    exact ⟨by unfold mayW; rw [HM.out]; rfl, ⟨h01.b⟩⟩
  | true =>
  by_cases h96 : 96 < n
  · go_wp2_with fail
    go_ret
    exact ⟨by unfold mayW; rw [HM.out, HN.out]; simp; omega, ⟨h01.b⟩⟩
  have HW := Lib.hid (show mayW g l = okTo g l n from by unfold mayW; rw [HM.out, HN.out]; simp; omega)
  go_wp2_with fail
  go_loopw [5] (fun i wr => ∃ k : Nat, k ≤ n ∧ i = .int .i64 k ∧ okTo g l k = true ∧ Box wr w.heap.size g ∧ At w wr) (fun i _ => n - (intOf i).toNat)
  case atStart => exact ⟨0, Nat.zero_le _, rfl, rfl, B1, h01⟩
  case round =>
    obtain ⟨k, hk, rfl, hok, BR, hr⟩ := hrel
    have HOK := Lib.hid hok
    clear h01 B1 hok
    by_cases hlt : k < n
    · rcases hI with e | ⟨b, off, rfl, hb, hcs⟩
      · rw [e] at hn; simp at hn; omega
      have hcs' := Lib.hid (show ∀ j, j < n → w.cell? ⟨b, off + j * 2, none⟩ = some (.int .i64 (atW l j)) from fun j hj => (hcs j (by omega)).1)
      have HBN := Lib.hid (Nat.lt_of_lt_of_le hb hn₀)
      have c1 := hcs'.out k hlt
      obtain ⟨x1, hx1⟩ : ∃ x1, atW l k = x1 := ⟨_, rfl⟩
      rw [hx1] at c1
      have HA := Lib.hid hx1
      have HC1 := Lib.hid c1
      have c1r : wr.cell? ⟨b, off + k * 2, none⟩ = some (.int .i64 x1) := (hr.b.cell (p := ⟨b, off + k * 2, none⟩) HBN.out).trans c1
      have b0 := BR.c0
      have b1 := BR.c1
      have b2 := BR.c2
      clear hcs c1 hx1
      go_wp2_with fail
      go_region_held3 (fun w' => w'.cell? ⟨w.heap.size, 0, none⟩ = some (.int .i64 g.w) ∧ w'.cell? ⟨w.heap.size, 1, none⟩ = some (.int .i64 g.i) ∧ w'.cell? ⟨w.heap.size, 2, none⟩ = some (.int .i64 g.b) ∧ w'.cell? ⟨b, off + k * 2, none⟩ = some (.int .i64 x1) ∧ At w w')
        (first | (exact ⟨b0, b1, b2, c1r, hr.drew⟩) | (go_split_ands; exact ⟨(Box.at ⟨by assumption, by assumption, by assumption⟩ kx).c0, (Box.at ⟨by assumption, by assumption, by assumption⟩ kx).c1, (Box.at ⟨by assumption, by assumption, by assumption⟩ kx).c2, (Below.cell (At.trans (by assumption) kx).b (p := ⟨b, off + k * 2, none⟩) HBN.out).trans HC1.out, At.trans (by assumption) kx⟩))
        ((go_at_call 98; refine (rwhere_any g x1 At.refl).mono ?_; rintro e w3 ⟨rfl, kx⟩; unfold four))
      obtain ⟨_, _, _, _, hr3⟩ : w3.cell? ⟨w.heap.size, 0, none⟩ = some (.int .i64 g.w) ∧ w3.cell? ⟨w.heap.size, 1, none⟩ = some (.int .i64 g.i) ∧ w3.cell? ⟨w.heap.size, 2, none⟩ = some (.int .i64 g.b) ∧ w3.cell? ⟨b, off + k * 2, none⟩ = some (.int .i64 x1) ∧ At w w3 := by assumption
      have B3 := BR.at (⟨(Below.refl _ wr).drew⟩ : At wr wr.drew) |>.at kx
      obtain ⟨kd, hkd⟩ : ∃ kd, (whereV g x1).1 = kd := ⟨_, rfl⟩
      rw [hkd]
      have HKD := Lib.hid hkd
      clear hkd kx b0 b1 b2 BR c1r hr
      by_cases e0 : kd = 0
      · subst e0
        have HF := Lib.hid (okTo_false hlt (show okAt g l k = false from by unfold okAt; rw [HA.out, HKD.out]; rfl))
        go_wp2_with fail
        go_ret
        exact ⟨by rw [HW.out, HF.out]; rfl, ⟨hr3.b⟩⟩
      by_cases e1 : kd = 1
      · subst e1
        have HF := Lib.hid (okTo_false hlt (show okAt g l k = false from by unfold okAt; rw [HA.out, HKD.out]; rfl))
        go_wp2_with fail
        go_ret
        exact ⟨by rw [HW.out, HF.out]; rfl, ⟨hr3.b⟩⟩
      by_cases e5 : kd = 5
      · subst e5
        have HF := Lib.hid (okTo_false hlt (show okAt g l k = false from by unfold okAt; rw [HA.out, HKD.out]; rfl))
        go_wp2_with fail
        go_ret
        exact ⟨by rw [HW.out, HF.out]; rfl, ⟨hr3.b⟩⟩
      have HKO := Lib.hid (show kindOk kd = true from by simp [kindOk, e0, e1, e5])
      have d0 : (kd == 0) = false := by simpa using e0
      have d1 : (kd == 1) = false := by simpa using e1
      have d5 : (kd == 5) = false := by simpa using e5
      clear e0 e1 e5
      go_wp2_with fail
      go_loopw [10] (fun j wq => ∃ m : Nat, m ≤ k ∧ j = .int .i64 m ∧ apartTo l k m = true ∧ Box wq w.heap.size g ∧ At w wq) (fun j _ => k - (intOf j).toNat)
      case atStart => exact ⟨0, Nat.zero_le _, rfl, rfl, B3, hr3⟩
      case round =>
        obtain ⟨m, hmk, rfl, hap, BQ, hq⟩ := hrel
        have HAP := Lib.hid hap
        clear hr3 B3 hap
        by_cases hlt2 : m < k
        · obtain ⟨y1, hy1⟩ : ∃ y1, atW l m = y1 := ⟨_, rfl⟩
          have c1q : wr.cell? ⟨b, off + m * 2, none⟩ = some (.int .i64 y1) := (hq.b.cell (p := ⟨b, off + m * 2, none⟩) HBN.out).trans (by rw [← hy1]; exact hcs'.out m (by omega))
          have c2q : wr.cell? ⟨b, off + k * 2, none⟩ = some (.int .i64 x1) := (hq.b.cell (p := ⟨b, off + k * 2, none⟩) HBN.out).trans HC1.out
          have HY := Lib.hid hy1
          clear hy1
          by_cases he : y1 = x1
          · subst he
            have HF := Lib.hid (okTo_false hlt (show okAt g l k = false from by unfold okAt; rw [apart_false hlt2 (by rw [HA.out, HY.out]; simp)]; simp))
            go_wp2_with fail
            go_quiet (fail)
            go_wp2_with fail
            go_ret
            exact ⟨by rw [HW.out, HF.out]; rfl, ⟨below_drewN hq.b _⟩⟩
          · have hbe : (y1 == x1) = false := by simpa using he
            have HE := Lib.hid he
            clear he
            go_wp2_with fail
            go_quiet (fail)
            go_wp2_with fail
            go_roundw
            case rel => exact ⟨m + 1, by omega, by go_num, by rw [apartTo_succ, HAP.out, HA.out, HY.out]; simpa using HE.out, BQ.at ⟨below_drewN (Below.refl _ _) _⟩, ⟨below_drewN hq.b _⟩⟩
            case measure => simp [intOf]; omega
        · obtain rfl : m = k := by omega
          go_wp2_with fail
          go_roundw
          case rel => exact ⟨m + 1, by omega, by go_num, by rw [okTo_succ, HOK.out]; unfold okAt; rw [HA.out, HKD.out, HKO.out, ← apartTo_self, HAP.out]; rfl, BQ, hq⟩
          case measure => simp [intOf]; omega
    · obtain rfl : k = n := by omega
      go_wp2_with fail
      go_ret
      exact ⟨by rw [HW.out, HOK.out]; rfl, ⟨hr.b⟩⟩

end Go.Proofs.YtkopfnldgnkkoaaGreat
