/-
  THE WALK OF CommitNil.
-/
import Derived.Test.YtkopfnldgnkkoaaOvH
namespace Go.Proofs.Ytkopfnldgnkkoaa
open Go.RowKit Go.Shelf
set_option linter.unusedVariables false

set_option maxRecDepth 100000 in
set_option maxHeartbeats 8000000 in
theorem walk_nil (g : G) (i : Int) (a : Option Addr) (n c n₀ : Nat) (ws : List Int) (hx : ws.length = n) (hnc : n ≤ c) (hu : ∀ x ∈ ws, u64 x) (w : World) (hn₀ : n₀ ≤ w.heap.size) (hI : Ints n₀ .u64 w a ws) :
    Calls Try.prog 5 #[gV g, .int .i64 i, .slice a n c] w fun e w' => e = .returned (.bool true) ∧ Below w.heap.size w w' := by
  have hn0 := (Nw.refl (w := w)).alloc (.cells #[.int .i64 g.w, .int .i64 g.i, .int .i64 g.b] 25)
  have hb := Blk.new w #[.int .i64 g.w, .int .i64 g.i, .int .i64 g.b] 25
  have HNN := Lib.hid (fun W => new_nil g i W)
  have HLE := Lib.hid (overL_le g ws)
  rw [hx] at HLE
  obtain ⟨zs, hzs⟩ : ∃ zs, overL g ws = zs := ⟨_, rfl⟩
  have HOV : Hid (∀ W, Nw w W → n ≤ 1000 → Calls Try.prog 20 #[gV g, .slice a n c] W (OvR zs W)) := fun W k hn => by
    rw [← hzs]; exact over_any g a n c n₀ ws hx hnc (by omega) hu W (Nat.le_trans hn₀ k.b.size) (hI.below (k.b.mono hn₀))
  have HRO : Hid (∀ W, Nw w W → n ≤ 1000 → Calls Try.prog 24 #[gV g, .slice a n c] W (OvR zs W)) := fun W k hn => by
    rw [← hzs]; exact rover_any g a n c n₀ ws hx hnc (by omega) hu W (Nat.le_trans hn₀ k.b.size) (hI.below (k.b.mono hn₀))
  rw [hzs] at HLE
  unfold gV at HNN HOV HRO ⊢
  clear hx hu hI hzs
  go_enter Try.func5, Try.ntmps5
  go_upto_region 1 with fail
  generalize w.alloc (.cells #[.int .i64 g.w, .int .i64 g.i, .int .i64 g.b] 25) = w1 at *
  generalize hbx : w.heap.size = bx at hb
  have HBX := Lib.hid hbx
  clear hbx
  have HN1 := Lib.hid hn0
  have HB1 := Lib.hid hb
  have c0 : w1.cell? ⟨bx, 0, none⟩ = some (.int .i64 g.w) := hb.cell rfl
  have c1 : w1.cell? ⟨bx, 1, none⟩ = some (.int .i64 g.i) := hb.cell rfl
  have c2 : w1.cell? ⟨bx, 2, none⟩ = some (.int .i64 g.b) := hb.cell rfl
  clear hb hn0
  by_cases hbig : (1000 : Int) < (n : Int)
  · go_wp2_with fail
    refine (works_any w1).mono ?_
    rintro e w2 ⟨rfl, h2⟩
    have HN2 := Lib.hid (HN1.out.trans h2)
    clear h2
    go_wp2_with fail
    go_ret
    exact ⟨rfl, HN2.out.b⟩
  · have hn1 : n ≤ 1000 := by omega
    have HNL := Lib.hid hn1
    have HN1w := Lib.hid (HNN.out w1)
    clear hn1 HNN
    go_wp2_with fail
    refine HN1w.out.mono ?_
    rintro e w2 ⟨rfl, h2⟩
    have HB2 := Lib.hid (HB1.out.nw h2)
    have HN2 := Lib.hid (HN1.out.trans h2)
    clear h2 c0 c1 c2 HN1w
    have c0 : w2.cell? ⟨bx, 0, none⟩ = some (.int .i64 g.w) := HB2.out.cell rfl
    have c1 : w2.cell? ⟨bx, 1, none⟩ = some (.int .i64 g.i) := HB2.out.cell rfl
    have c2 : w2.cell? ⟨bx, 2, none⟩ = some (.int .i64 g.b) := HB2.out.cell rfl
    go_wp2_with fail
    refine (resume_nil w2).mono ?_
    rintro e w3 ⟨rfl, rfl⟩
    go_wp2_with fail
    refine (step_nil w2).mono ?_
    rintro e w3 ⟨rfl, rfl⟩
    have HK9 : Hid (∀ W, Nw w2 W → W.cell? ⟨bx, 0, none⟩ = some (.int .i64 g.w) ∧ W.cell? ⟨bx, 1, none⟩ = some (.int .i64 g.i) ∧ W.cell? ⟨bx, 2, none⟩ = some (.int .i64 g.b) ∧ Nw w2 W) :=
      fun W k => ⟨(HB2.out.nw k).cell rfl, (HB2.out.nw k).cell rfl, (HB2.out.nw k).cell rfl, k⟩
    have HOV2 := Lib.hid (fun W (k : Nw w2 W) => HOV.out W (HN2.out.trans k) HNL.out)
    have HRO2 := Lib.hid (fun W (k : Nw w2 W) => HRO.out W (HN2.out.trans k) HNL.out)
    obtain ⟨m, hm⟩ : ∃ m, zs.length = m := ⟨_, rfl⟩
    have HM := Lib.hid hm
    have HM8 := Lib.hid (show m * 8 ≤ 140737488351232 by have h1 := HLE.out; have h2 := HNL.out; omega)
    unfold OvR at HOV2 HRO2
    rw [hm] at HOV2 HRO2
    clear hm
    go_wp2_with fail
    go_region_held3 (fun w' => w'.cell? ⟨bx, 0, none⟩ = some (.int .i64 g.w) ∧ w'.cell? ⟨bx, 1, none⟩ = some (.int .i64 g.i) ∧ w'.cell? ⟨bx, 2, none⟩ = some (.int .i64 g.b) ∧ Nw w2 w')
      (first | (exact HK9.out _ Nw.refl.drew) | (exact HK9.out _ hk9) | (exact HK9.out _ hk9.drew))
      ((first
        | (go_at_call 13; refine (begin_nil none 0 0 _).mono ?_; rintro e w3 ⟨rfl, rfl⟩; have hk9 := (Nw.refl (w := w2)).drew)
        | (go_at_call 16; refine (phase_nil _).mono ?_; rintro e w3 ⟨rfl, rfl⟩)
        | (go_at_call 14; refine (left_nil _).mono ?_; rintro e w3 ⟨rfl, rfl⟩)
        | (go_at_call 20; (with_reducible refine (HOV2.out _ hk9).mono ?_); rintro e w3 ⟨oa, oc, rfl, hoc, hoI, hoN, hoS⟩; have HOI := Lib.hid hoI; have hk9 := hk9.trans hoN)
        | (go_at_call 24; (with_reducible refine (HRO2.out _ hk9).mono ?_); rintro e w4 ⟨pa, pc, rfl, hpc, hpI, hpN, hpS⟩; have HPI := Lib.hid hpI; have HOI2 := Lib.hid (Ints.nw (n := 0) hpN HOI.out); have hk9 := hk9.trans hpN)
        | (go_at_call 21; (with_reducible refine (same_len oa m oc pa pc zs zs HM.out HM.out HM8.out _ _ HOI2.out HPI.out).mono ?_); rintro e w5 ⟨rfl, nd, rfl⟩; have hk9 := hk9.drewN nd)
        | (go_at_call 7; refine (works_any _).mono ?_; rintro e w6 ⟨rfl, hw6⟩; have hk9 := hk9.trans hw6)))
    have HN9 := Lib.hid (HN2.out.trans hk9)
    clear hk9
    go_wp2_with fail
    go_ret
    exact ⟨by simp, HN9.out.b⟩
end Go.Proofs.Ytkopfnldgnkkoaa
