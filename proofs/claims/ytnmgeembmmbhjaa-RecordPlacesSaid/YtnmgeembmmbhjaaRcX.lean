/-
  THE WALK OF RecordPlaces.
-/
import Derived.Deep.DeepCutAuto
import Derived.Lib.SmallJoins
import Derived.Test.YtnmgeembmmbhjaaRcE
import Derived.Test.YtnmgeembmmbhjaaRcI
namespace Go.Proofs.Ytnmgeembmmbhjaa
open Go.RowKit Go.Shelf
set_option linter.unusedVariables false

/-- Whether writes may be, k of them gone through. -/
def mayTo (g : G) (l : List Wr) (k : Nat) : Bool := mayB g && decide (l.length ≤ 96) && okTo g l k
theorem mayTo_succ (g : G) (l : List Wr) (k : Nat) : mayTo g l (k + 1) = (mayTo g l k && kindOk (whereV g (atW l k)).1 && apart l k) := by
  unfold mayTo; rw [okTo_succ]; unfold okAt; simp only [Bool.and_assoc]
theorem mayTo_all (g : G) (l : List Wr) : mayTo g l l.length = mayW g l := rfl

set_option maxRecDepth 100000 in
set_option maxHeartbeats 8000000 in
theorem walk_places (g : G) (a : Option Addr) (n cap : Nat) (l : List Wr) (hn : l.length = n) (hlm : n ≤ 9223372036854775807) (hwf : ∀ x ∈ l, (Lit.int .i64 x.1).wf = true)
    (w : World) (hI : Pairs .i64 .u64 w.heap.size w a l) :
    Calls Try.prog 5 #[gV g, .slice a n cap] w fun e w' => e = .returned (.bool true) ∧ Below w.heap.size w w' := by
  by_cases hbig : 200 < n
  · clear hI hwf hn
    unfold gV
    go_enter Try.func5, Try.ntmps5
    go_wp2_with fail
    refine (works_ok _).mono ?_
    rintro e w1 ⟨rfl, hN⟩
    go_wp2_with fail
    go_ret
    exact ⟨rfl, ((Nw.refl.alloc _).trans hN).b⟩
  have B0 := Box.new w g 23
  have b0 := B0.c0
  have b1 := B0.c1
  have b2 := B0.c2
  have HMY := Lib.hid (fun (W : World) (h : Nw w W) => rcmay_any g a cap _ l hwf W (Nat.le_refl _) (hI.nw h) (by omega))
  rw [hn] at HMY
  have HN := Lib.hid hn
  have HWF := Lib.hid hwf
  have HI := Lib.hid hI
  obtain ⟨m, hm⟩ : ∃ m, mayB g = m := ⟨_, rfl⟩
  obtain ⟨v0, hv0⟩ : ∃ v0, mayTo g l 0 = v0 := ⟨_, rfl⟩
  have HV0 := Lib.hid hv0
  have HV := Lib.hid (show v0 = (m && decide (n ≤ 96)) from by rw [← hv0, ← hm, ← hn]; unfold mayTo; simp [okTo])
  clear hn hwf hI hv0
  unfold gV at HMY ⊢
  go_enter Try.func5, Try.ntmps5
  go_upto_region 3 with fail
  go_cut [5] (fun v wx => v = .bool v0 ∧ Box wx w.heap.size g ∧ At w wx)
  case first =>
    go_wp2_with fail
    refine (may_any g At.refl).mono ?_
    rintro e w1 ⟨rfl, h1⟩
    rw [hm]
    have h01 := (At.refl.alloc _).trans h1
    have B1 := B0.at h1
    clear b0 b1 b2 B0 h1 hm
    cases m with
    | false => go_wp2_with fail; go_meet; exact ⟨by rw [HV.out]; rfl, B1, h01⟩
    | true =>
      by_cases h96 : n ≤ 96
      · go_wp2_with fail; go_meet; exact ⟨by rw [HV.out]; simp; omega, B1, h01⟩
      · go_wp2_with fail; go_meet; exact ⟨by rw [HV.out]; simp; omega, B1, h01⟩
  case rest =>
  obtain ⟨rfl, B1, h01⟩ := hcut
  clear HV b0 b1 b2 B0 hm
  go_wp2_with fail
  go_loopw [5, 6] (fun v i wr => ∃ k : Nat, ∃ b : Bool, k ≤ n ∧ i = .int .i64 k ∧ v = .bool b ∧ mayTo g l k = b ∧ Box wr w.heap.size g ∧ At w wr) (fun _ i _ => n - (intOf i).toNat)
  case atStart => exact ⟨0, v0, Nat.zero_le _, rfl, rfl, HV0.out, B1, h01⟩
  case round =>
    obtain ⟨k, b, hk, rfl, rfl, hmt, BR, hr⟩ := hrel
    have HMT := Lib.hid hmt
    clear h01 B1 hmt
    by_cases hlt : k < n
    · rcases HI.out with e | ⟨bb, off, rfl, hb, hcs⟩
      · have := HN.out; rw [e] at this; simp at this; omega
      have hcs' := Lib.hid (show ∀ j, j < n → w.cell? ⟨bb, off + j * 2, none⟩ = some (.int .i64 (atW l j)) from fun j hj => (hcs j (by rw [HN.out]; exact hj)).1)
      have HBN := Lib.hid hb
      have c1 := hcs'.out k hlt
      obtain ⟨x1, hx1⟩ : ∃ x1, atW l k = x1 := ⟨_, rfl⟩
      have hx2 : x1 ≤ 9223372036854775807 := by
        have h := HWF.out (l[k]'(by rw [HN.out]; exact hlt)) (List.getElem_mem _)
        rw [← hx1]; unfold atW; rw [List.getElem?_eq_getElem (by rw [HN.out]; exact hlt)]
        simp [Lit.wf, IntKind.min, IntKind.max, IntKind.bits, IntKind.signed] at h ⊢
        omega
      rw [hx1] at c1
      have HA := Lib.hid hx1
      have HC1 := Lib.hid c1
      have c1r : wr.cell? ⟨bb, off + k * 2, none⟩ = some (.int .i64 x1) := (hr.b.cell (p := ⟨bb, off + k * 2, none⟩) HBN.out).trans c1
      have b0 := BR.c0
      have b1 := BR.c1
      have b2 := BR.c2
      clear hcs c1 hx1 hb
      go_wp2_with fail
      go_region_held3 (fun w' => w'.cell? ⟨w.heap.size, 0, none⟩ = some (.int .i64 g.w) ∧ w'.cell? ⟨w.heap.size, 1, none⟩ = some (.int .i64 g.i) ∧ w'.cell? ⟨w.heap.size, 2, none⟩ = some (.int .i64 g.b) ∧ w'.cell? ⟨bb, off + k * 2, none⟩ = some (.int .i64 x1) ∧ At w w')
        (first | (exact ⟨b0, b1, b2, c1r, hr.drew⟩) | (go_split_ands; exact ⟨(Box.at ⟨by assumption, by assumption, by assumption⟩ kx).c0, (Box.at ⟨by assumption, by assumption, by assumption⟩ kx).c1, (Box.at ⟨by assumption, by assumption, by assumption⟩ kx).c2, (Below.cell (At.trans (by assumption) kx).b (p := ⟨bb, off + k * 2, none⟩) HBN.out).trans HC1.out, At.trans (by assumption) kx⟩))
        ((go_at_call 20; refine (where_any g x1 hx2 At.refl).mono ?_; rintro e w3 ⟨rfl, kx⟩; unfold four))
      obtain ⟨_, _, _, _, hr3⟩ : w3.cell? ⟨w.heap.size, 0, none⟩ = some (.int .i64 g.w) ∧ w3.cell? ⟨w.heap.size, 1, none⟩ = some (.int .i64 g.i) ∧ w3.cell? ⟨w.heap.size, 2, none⟩ = some (.int .i64 g.b) ∧ w3.cell? ⟨bb, off + k * 2, none⟩ = some (.int .i64 x1) ∧ At w w3 := by assumption
      have B3 := BR.at (⟨(Below.refl _ wr).drew⟩ : At wr wr.drew) |>.at kx
      obtain ⟨kd, hkd⟩ : ∃ kd, (whereV g x1).1 = kd := ⟨_, rfl⟩
      rw [hkd]
      have HKD := Lib.hid hkd
      clear hkd kx b0 b1 b2 BR c1r hr
      obtain ⟨v, hv⟩ : ∃ v, (b && kindOk kd) = v := ⟨_, rfl⟩
      have HV := Lib.hid hv
      clear hv
      go_upto_region 8 with fail
      go_cut [5] (fun vv wx => vv = .bool v ∧ wx = w3)
      case first =>
        cases b with
        | false => go_wp2_with fail; go_meet; exact ⟨by rw [← HV.out]; rfl, rfl⟩
        | true =>
          by_cases e0 : kd = 0
          · subst e0
            go_wp2_with fail; go_meet; exact ⟨by rw [← HV.out]; rfl, rfl⟩
          by_cases e1 : kd = 1
          · subst e1
            go_wp2_with fail; go_meet; exact ⟨by rw [← HV.out]; rfl, rfl⟩
          by_cases e5 : kd = 5
          · subst e5
            go_wp2_with fail; go_meet; exact ⟨by rw [← HV.out]; rfl, rfl⟩
          have HKO := Lib.hid (show kindOk kd = true from by simp [kindOk, e0, e1, e5])
          have d0 : (kd != 0) = true := by simpa using e0
          have d1 : (kd != 1) = true := by simpa using e1
          have d5 : (kd != 5) = true := by simpa using e5
          clear e0 e1 e5
          go_wp2_with fail; go_meet; exact ⟨by rw [← HV.out, HKO.out]; rfl, rfl⟩
      case rest =>
        obtain ⟨rfl, rfl⟩ := hcut
        go_wp2_with fail
        go_loopw [5, 11] (fun vv j wq => ∃ m : Nat, ∃ c : Bool, m ≤ k ∧ j = .int .i64 m ∧ vv = .bool c ∧ (v && apartTo l k m) = c ∧ Box wq w.heap.size g ∧ At w wq) (fun _ j _ => k - (intOf j).toNat)
        case atStart => exact ⟨0, v, Nat.zero_le _, rfl, rfl, by simp [apartTo], B3, hr3⟩
        case round =>
          obtain ⟨m, c, hmk, rfl, rfl, hc, BQ, hq⟩ := hrel
          have HC := Lib.hid hc
          clear hr3 B3 hc
          by_cases hlt2 : m < k
          · obtain ⟨y1, hy1⟩ : ∃ y1, atW l m = y1 := ⟨_, rfl⟩
            have c1q : wr.cell? ⟨bb, off + m * 2, none⟩ = some (.int .i64 y1) := (hq.b.cell (p := ⟨bb, off + m * 2, none⟩) HBN.out).trans (by rw [← hy1]; exact hcs'.out m (by omega))
            have c2q : wr.cell? ⟨bb, off + k * 2, none⟩ = some (.int .i64 x1) := (hq.b.cell (p := ⟨bb, off + k * 2, none⟩) HBN.out).trans HC1.out
            have HY := Lib.hid hy1
            clear hy1
            cases c with
            | false =>
              go_wp2_with fail
              go_quiet (fail)
              go_wp2_with fail
              go_roundw
              case rel => exact ⟨m + 1, false, by omega, by go_num, rfl, by rw [apartTo_succ, ← Bool.and_assoc, HC.out]; rfl, BQ.at ⟨below_drewN (Below.refl _ _) _⟩, ⟨below_drewN hq.b _⟩⟩
              case measure => simp [intOf]; omega
            | true =>
              by_cases he : y1 = x1
              · subst he
                go_wp2_with fail
                go_quiet (fail)
                go_wp2_with fail
                go_roundw
                case rel => exact ⟨m + 1, false, by omega, by go_num, by simp, by rw [apartTo_succ, ← Bool.and_assoc, HC.out, HA.out, HY.out]; simp, BQ.at ⟨below_drewN (Below.refl _ _) _⟩, ⟨below_drewN hq.b _⟩⟩
                case measure => simp [intOf]; omega
              · have hbe : (y1 != x1) = true := by simpa using he
                have HE := Lib.hid he
                clear he
                go_wp2_with fail
                go_quiet (fail)
                go_wp2_with fail
                go_roundw
                case rel => exact ⟨m + 1, true, by omega, by go_num, by simp, by rw [apartTo_succ, ← Bool.and_assoc, HC.out, HA.out, HY.out]; simpa using HE.out, BQ.at ⟨below_drewN (Below.refl _ _) _⟩, ⟨below_drewN hq.b _⟩⟩
                case measure => simp [intOf]; omega
          · obtain rfl : m = k := by omega
            go_wp2_with fail
            go_roundw
            case rel => exact ⟨m + 1, c, by omega, by go_num, rfl, by rw [mayTo_succ, HMT.out, HA.out, HKD.out, HV.out, ← apartTo_self, HC.out], BQ, hq⟩
            case measure => simp [intOf]; omega
    · obtain rfl : k = n := by omega
      have HB := Lib.hid (show mayW g l = b from by rw [← HMT.out, ← mayTo_all, HN.out])
      clear HMT
      have HM2 := Lib.hid (HMY.out wr ⟨hr.b⟩)
      have b0 := BR.c0
      have b1 := BR.c1
      have b2 := BR.c2
      go_wp2_with fail
      refine HM2.out.mono ?_
      rintro e w2 ⟨rfl, hN⟩
      rw [HB.out]
      clear b0 b1 b2
      cases b
      all_goals
        go_wp2_with fail
        refine (works_ok _).mono ?_
        rintro e w4 ⟨rfl, hN4⟩
        go_wp2_with fail
        go_ret
        exact ⟨rfl, ((((⟨hr.b⟩ : Nw w wr).trans hN)).trans hN4).b⟩

end Go.Proofs.Ytnmgeembmmbhjaa
