/-
  THE WALK OF record.May (a map of the words that came).
-/
import Derived.Maps.OwnOps
import Derived.Maps.Views
import Derived.Carry
import Derived.Test.YtkopfnldgnkkoaaRdC
namespace Go.Proofs.Ytkopfnldgnkkoaa
open Go.RowKit Go.Shelf Go.Maps
set_option linter.unusedVariables false

/-- The map behind k rounds. -/
def cameD (l : List Wr) : Nat → DataW Unit
  | 0 => .map []
  | k + 1 => (cameD l k).put (.int .i64 (atW l k)) (.lit (.int .i64 1))
theorem cameD_map (l : List Wr) : ∀ k, IsMap (cameD l k)
  | 0 => isMap_empty
  | k + 1 => (cameD_map l k).put _ _
theorem cameD_at (l : List Wr) (x : Int) : ∀ k, (cameD l k).atKey (.int .i64 x) (.lit (.int .i64 0)) = .lit (.int .i64 (if (List.range k).any (fun j => atW l j == x) = true then 1 else 0))
  | 0 => rfl
  | k + 1 => by
    show ((cameD l k).put _ _).atKey _ _ = _
    by_cases h : atW l k = x
    · rw [h, atKey_put_same (cameD_map l k) (by trivial)]
      rw [if_pos (by rw [List.range_succ]; simp [h])]
    · rw [atKey_put_other (by intro hh; cases hh; exact h rfl), cameD_at l x k]
      congr 2
      rw [List.range_succ]; simp [h]
theorem apart_eq (l : List Wr) (i : Nat) : apart l i = !((List.range i).any (fun j => atW l j == atW l i)) := by
  rw [apart, List.all_eq_not_any_not]; simp [bne]
theorem Box.kept {W W' : World} {b c : Nat} {g : G} (h : Box W b g) (k : W.grownBy W' (some c)) (hne : b ≠ c) : Box W' b g :=
  have hb := (cell_lt h.c0).1
  have hh : W'.heap[b]? = W.heap[b]? := k.block b hb (by simpa using hne)
  ⟨(World.cell?_of_block (w := W) (w' := W') (a := ⟨b, 0, none⟩) hh).trans h.c0, (World.cell?_of_block (w := W) (w' := W') (a := ⟨b, 1, none⟩) hh).trans h.c1, (World.cell?_of_block (w := W) (w' := W') (a := ⟨b, 2, none⟩) hh).trans h.c2⟩
theorem grown_at {w w' : World} (h : At w w') : w.grownBy w' none := ⟨h.b.os, h.b.tape, h.b.output, h.b.size, fun k hk _ => h.b.block k hk⟩

theorem keyed_int : Keyed Try.prog 3 := int_keyed Try.underlying3
theorem zero_int (w : World) : (zeroValue 3).run Try.prog w = .ok (.int .i64 0) w := by kernel_rfl

set_option maxRecDepth 100000 in
set_option maxHeartbeats 4000000 in
theorem rcmay_any (g : G) (a : Option Addr) (cap n₀ : Nat) (l : List Wr) (hu : ∀ x ∈ l, (Lit.int .i64 x.1).wf = true) (w : World) (hn₀ : n₀ ≤ w.heap.size) (hI : Pairs .i64 .u64 n₀ w a l) (hreach : l.length ≤ 9223372036854775807) :
    Calls Try.prog 42 #[gV g, .slice a l.length cap] w fun e w' => e = .returned (.bool (mayW g l)) ∧ Nw w w' := by
  obtain ⟨n, hn⟩ : ∃ n, l.length = n := ⟨_, rfl⟩
  have HN := Lib.hid hn
  rw [hn] at hreach ⊢
  have HU := Lib.hid hu
  clear hu
  have B0 := Box.new w g 25
  have b0 := B0.c0
  have b1 := B0.c1
  have b2 := B0.c2
  have hmm := @run_makeMap Try.prog
  obtain ⟨m, hm⟩ : ∃ m, mayB g = m := ⟨_, rfl⟩
  have HM := Lib.hid hm
  unfold gV
  go_enter Try.func42, Try.ntmps42
  go_wp2_with fail
  refine (may_any g At.refl).mono ?_
  rintro e w1 ⟨rfl, h1⟩
  rw [hm]
  have h01 := (At.refl.alloc _).trans h1
  have B1 := B0.at h1
  clear b0 b1 b2 B0 h1 hm
  cases m with
  | false =>
    go_wp2_with fail
    go_ret
    exact ⟨by unfold mayW; rw [HM.out]; rfl, ⟨h01.b⟩⟩
  | true =>
  by_cases h96 : 96 < n
  · go_wp2_with fail
    go_ret
    exact ⟨by unfold mayW; rw [HM.out, HN.out]; simp; omega, ⟨h01.b⟩⟩
  have HW := Lib.hid (show mayW g l = okTo g l n from by unfold mayW; rw [HM.out, HN.out]; simp; omega)
  go_wp2_with fail
  obtain ⟨M, hM⟩ : ∃ M, w1.heap.size = M := ⟨_, rfl⟩
  rw [hM]
  have hown : (w1.alloc (.map #[] 0)).ownsMap Try.prog 3 (plainElem Try.prog 3) M 0 (cameD l 0) := by rw [← hM]; exact World.ownsMap_made _ _ _ _
  have h02 := h01.alloc (.map #[] 0)
  have B2 := B1.alloc (.map #[] 0)
  have hwM : w.heap.size < M := by have := (cell_lt B1.c0).1; dsimp only at this; omega
  clear h01 B1
  generalize hW2 : w1.alloc (.map #[] 0) = w2 at *
  clear hW2 hM
  go_loopw [23] (fun i wr => ∃ k : Nat, k ≤ n ∧ i = .int .i64 k ∧ okTo g l k = true ∧ Box wr w.heap.size g ∧ wr.ownsMap Try.prog 3 (plainElem Try.prog 3) M k (cameD l k) ∧ At w wr) (fun i _ => n - (intOf i).toNat)
  case atStart => exact ⟨0, Nat.zero_le _, rfl, rfl, B2, hown, h02⟩
  case round =>
    obtain ⟨k, hk, rfl, hok, BR, hownr, hr⟩ := hrel
    clear hown h02 B2
    by_cases hlt : k < n
    · rcases hI with e | ⟨b, off, rfl, hb, hcs⟩
      · rw [e] at hn; simp at hn; omega
      have hlk : k < l.length := by omega
      obtain ⟨c1, c2⟩ := hcs k hlk
      obtain ⟨x, hx⟩ : ∃ x, (l[k]?.getD (0, 0)) = x := ⟨_, rfl⟩
      have hxl : l[k] = x := by rw [← hx]; simp [hlk]
      have hwf := HU.out x (by rw [← hxl]; exact List.getElem_mem _)
      have HA := Lib.hid (show atW l k = x.1 from by unfold atW; rw [hx])
      rw [hx] at c1 c2
      have c1r : wr.cell? ⟨b, off + k * 2, none⟩ = some (.int .i64 x.1) := (hr.b.cell (p := ⟨b, off + k * 2, none⟩) (Nat.lt_of_lt_of_le hb hn₀)).trans c1
      have c2r : wr.cell? ⟨b, off + k * 2 + 1, none⟩ = some (.int .u64 x.2) := (hr.b.cell (p := ⟨b, off + k * 2 + 1, none⟩) (Nat.lt_of_lt_of_le hb hn₀)).trans c2
      obtain ⟨x1, x2⟩ := x
      dsimp only at c1r c2r hwf HA
      have hx2 : x1 ≤ 9223372036854775807 := by have := hwf; simp [Lit.wf] at this; omega
      have BA := BR.alloc (.cells #[.int .i64 x1, .int .u64 x2] 41)
      have b0 := BA.c0
      have b1 := BA.c1
      have b2 := BA.c2
      have hra := hr.alloc (.cells #[.int .i64 x1, .int .u64 x2] 41)
      have howna := hownr.alloc (.cells #[.int .i64 x1, .int .u64 x2] 41)
      have HOK := Lib.hid hok
      clear hcs c1 c2 hx hxl hok
      go_wp2_with fail
      refine (where_any g x1 hx2 At.refl).mono ?_
      rintro e w3 ⟨rfl, h3⟩
      unfold four
      obtain ⟨kd, hkd⟩ : ∃ kd, (whereV g x1).1 = kd := ⟨_, rfl⟩
      rw [hkd]
      have HKD := Lib.hid hkd
      have B3 := BA.at h3
      have hr3 := hra.trans h3
      have hown3 := howna.kept (grown_at h3) (by simp)
      have ce : w3.cell? ⟨wr.heap.size, 0, none⟩ = some (.int .i64 x1) := (h3.b.cell (p := ⟨wr.heap.size, 0, none⟩) (by simp)).trans (by simp)
      clear h3 hkd b0 b1 b2 BA hra howna hownr hr BR c1r c2r
      go_wp2_with fail
      refine (writable_any kd w3).mono ?_
      rintro e w4 ⟨rfl, rfl⟩
      obtain ⟨ok, hkok⟩ : ∃ ok, kindOk kd = ok := ⟨_, rfl⟩
      rw [hkok]
      have HKO := Lib.hid hkok
      clear hkok
      cases ok with
      | false =>
        go_wp2_with fail
        go_ret
        exact ⟨by rw [HW.out, okTo_false hlt (by unfold okAt; rw [HA.out, HKD.out, HKO.out]; rfl)]; rfl, ⟨hr3.b⟩⟩
      | true =>
        have hkey : keyOf Try.prog 3 (.int .i64 x1) = some (.int .i64 x1) := keyOf_int_mk Try.underlying3 hwf
        obtain ⟨c, hrun, hat, hwc⟩ := hown3.lookup_int keyed_int Try.underlying131 Try.underlying3 (zero_int _) hkey
        rw [cameD_at] at hat
        simp only [DataW.lit.injEq, Lit.int.injEq, true_and] at hat
        have hap := apart_eq l k
        rw [HA.out] at hap
        by_cases hany : (List.range k).any (fun j => atW l j == x1) = true
        · rw [if_pos hany] at hat
          rw [hany] at hap
          subst hat
          have HAP := Lib.hid hap
          clear hap hany
          go_wp2_with fail
          go_ret
          exact ⟨by rw [HW.out, okTo_false hlt (by unfold okAt; rw [HAP.out]; simp)]; rfl, ⟨hr3.b⟩⟩
        · rw [if_neg hany] at hat
          rw [show ((List.range k).any (fun j => atW l j == x1)) = false from by simpa using hany] at hap
          subst hat
          have HAP := Lib.hid hap
          clear hap hany
          go_wp2_with (at_mapUpdate; refine wpList_mapUpdate_own _ rfl _ _ _ 131 rfl 3 3 keyed_int Try.underlying131 _ M k _ rfl hown3 (by unfold maxLen; omega) _ _ _ rfl rfl hkey _ [] (plainElem_int Try.underlying3 (show (Lit.int .i64 1).wf = true from rfl)) ?_; intro w5 hown5 hgrow5)
          go_roundw
          case rel => exact ⟨k + 1, by omega, by go_num, by rw [okTo_succ, HOK.out]; unfold okAt; rw [HA.out, HKD.out, HKO.out, HAP.out]; rfl, B3.kept hgrow5 (by omega), by unfold cameD; rw [HA.out]; exact hown5, ⟨hr3.b.grown hgrow5 hr3.b.size (fun j hj => by cases hj; omega)⟩⟩
          case measure => simp [intOf]; omega
    · obtain rfl : k = n := by omega
      have HOK := Lib.hid hok
      clear hok
      go_wp2_with fail
      go_ret
      exact ⟨by rw [HW.out, HOK.out]; rfl, ⟨hr.b⟩⟩

end Go.Proofs.Ytkopfnldgnkkoaa
