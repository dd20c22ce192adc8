/-
  RUNS: New.
-/
import Derived.Test.YtkopfnldgnkkoaaCmH
namespace Go.Proofs.Ytkopfnldgnkkoaa
open Go.RowKit Go.Shelf
set_option linter.unusedVariables false

theorem At.nw {w0 w : World} (h : At w0 w) : Nw w0 w := ⟨h.b⟩
theorem Nw.at' {w0 w : World} (h : Nw w0 w) : At w0 w := ⟨h.b⟩
set_option maxRecDepth 100000 in
set_option maxHeartbeats 2000000 in
theorem new_nil (g : G) (i : Int) (w : World) :
    Calls Try.prog 10 #[.pointer none, gV g, .int .i64 i] w fun e w' => e = .returned (.tuple #[.pointer none, .int .i64 2]) ∧ Nw w w' := by
  have hn0 := (Nw.refl (w := w)).alloc (.cells #[.int .i64 g.w, .int .i64 g.i, .int .i64 g.b] 25)
  have hb := Blk.new w #[.int .i64 g.w, .int .i64 g.i, .int .i64 g.b] 25
  unfold gV
  go_enter Try.func10, Try.ntmps10
  go_upto_region 1 with fail
  generalize w.alloc (.cells #[.int .i64 g.w, .int .i64 g.i, .int .i64 g.b] 25) = w1 at *
  generalize w.heap.size = bx at hb ⊢
  have c0 : w1.cell? ⟨bx, 0, none⟩ = some (.int .i64 g.w) := hb.cell rfl
  have c1 : w1.cell? ⟨bx, 1, none⟩ = some (.int .i64 g.i) := hb.cell rfl
  have c2 : w1.cell? ⟨bx, 2, none⟩ = some (.int .i64 g.b) := hb.cell rfl
  have HA := Lib.hid (area_at g i (At.refl (w := w1)))
  unfold gV at HA
  have HN := Lib.hid hn0
  clear hb hn0
  go_wp2_with fail
  refine HA.out.mono ?_
  rintro e w2 ⟨rfl, h2⟩
  have HN2 := Lib.hid (HN.out.trans h2.nw)
  clear h2
  go_wp2_with fail
  go_ret2
  exact ⟨rfl, HN2.out⟩
/-- What New of a run tells. -/
def NewRun (w : World) (d : Nat) (g : G) (area : Int) (e : Ending) (w' : World) : Prop :=
  ∃ r, e = .returned (.tuple #[.pointer (some ⟨r, 0, none⟩), .int .i64 0]) ∧ RunAt w' r d g area [] none ∧ Nw w w' ∧ w.heap.size ≤ r
set_option maxRecDepth 100000 in
set_option maxHeartbeats 4000000 in
theorem new_yes (g : G) (i : Int) (hm : mayP g) (h0 : 0 ≤ i) (h1 : i < g.w) (d b N : Nat) (f : Nat → Wd) (hN : wordsV g ≤ N) (w : World) (h : DevAt w d b N f) :
    Calls Try.prog 10 #[.pointer (some ⟨d, 0, none⟩), gV g, .int .i64 i] w (NewRun w d g (264 + 208 * i)) := by
  have hn0 := (Nw.refl (w := w)).alloc (.cells #[.int .i64 g.w, .int .i64 g.i, .int .i64 g.b] 25)
  have hb := Blk.new w #[.int .i64 g.w, .int .i64 g.i, .int .i64 g.b] 25
  have hpl : placeV g 2 i = 264 + 208 * i := by
    have : placeV g 2 i = atN g 2 + sizeN 2 * i := if_pos ⟨hm, h0, by simp only [manyN]; omega⟩
    rw [this]; simp only [atN, sizeN]
  have HD := Lib.hid h
  have hle := h.le
  have hw0 : 0 ≤ wordsV g := by unfold wordsV; rw [if_pos hm]; exact (at_bd hm 7).1
  unfold gV
  clear h
  go_enter Try.func10, Try.ntmps10
  go_upto_region 1 with fail
  generalize w.alloc (.cells #[.int .i64 g.w, .int .i64 g.i, .int .i64 g.b] 25) = w1 at *
  generalize hbx : w.heap.size = bx at hb ⊢
  have HBX := Lib.hid hbx
  clear hbx
  have c0 : w1.cell? ⟨bx, 0, none⟩ = some (.int .i64 g.w) := hb.cell rfl
  have c1 : w1.cell? ⟨bx, 1, none⟩ = some (.int .i64 g.i) := hb.cell rfl
  have c2 : w1.cell? ⟨bx, 2, none⟩ = some (.int .i64 g.b) := hb.cell rfl
  have HA := Lib.hid (area_at g i (At.refl (w := w1)))
  rw [hpl] at HA
  unfold gV at HA
  have HN := Lib.hid hn0
  have HB := Lib.hid hb
  clear hb hn0 hpl
  go_wp2_with fail
  refine HA.out.mono ?_
  rintro e w2 ⟨rfl, h2⟩
  have HB2 := Lib.hid (HB.out.nw h2.nw)
  have HN2 := Lib.hid (HN.out.trans h2.nw)
  have HWD := Lib.hid (fun W (k : Nw w2 W) => dwords_any d b N f W ((HD.out.nw HN2.out).nw k))
  have HLW := Lib.hid (fun W (k : Nw w2 W) => lwords_any g (w0 := W) (w := W) At.refl)
  unfold gV at HLW
  obtain ⟨V, hV⟩ : ∃ V, wordsV g = V := ⟨_, rfl⟩
  rw [hV] at HLW hN hw0
  clear hV h2 c0 c1 c2
  have c0 : w2.cell? ⟨bx, 0, none⟩ = some (.int .i64 g.w) := HB2.out.cell rfl
  have c1 : w2.cell? ⟨bx, 1, none⟩ = some (.int .i64 g.i) := HB2.out.cell rfl
  have c2 : w2.cell? ⟨bx, 2, none⟩ = some (.int .i64 g.b) := HB2.out.cell rfl
  have HK9 : Hid (∀ W, Nw w2 W → W.cell? ⟨bx, 0, none⟩ = some (.int .i64 g.w) ∧ W.cell? ⟨bx, 1, none⟩ = some (.int .i64 g.i) ∧ W.cell? ⟨bx, 2, none⟩ = some (.int .i64 g.b) ∧ Nw w2 W) :=
    fun W k => ⟨(HB2.out.nw k).cell rfl, (HB2.out.nw k).cell rfl, (HB2.out.nw k).cell rfl, k⟩
  go_wp2_with fail
  go_region_held3 (fun w' => w'.cell? ⟨bx, 0, none⟩ = some (.int .i64 g.w) ∧ w'.cell? ⟨bx, 1, none⟩ = some (.int .i64 g.i) ∧ w'.cell? ⟨bx, 2, none⟩ = some (.int .i64 g.b) ∧ Nw w2 w')
    (first | (exact ⟨c0, c1, c2, Nw.refl.drew⟩) | (exact HK9.out _ hk9))
    ((first
      | (go_at_call 40; refine (HWD.out _ Nw.refl.drew).mono ?_; rintro e w3 ⟨rfl, rfl⟩)
      | (go_at_call 12; refine (HLW.out _ Nw.refl.drew).mono ?_; rintro e w4 ⟨rfl, h4⟩; have hk9 := Nw.refl.drew.trans h4.nw)))
  have HN4 := Lib.hid (HN2.out.trans hk9)
  clear c0 c1 c2
  obtain ⟨c0, c1, c2, _⟩ := HK9.out _ hk9
  clear hk9 h4
  go_wp2_with fail
  go_ret2
  refine ⟨w4.heap.size, rfl, ⟨0, Blk.new _ _ _, [], StepsV.nil _ _ _, Qs.nil _ _ _⟩, HN4.out.alloc _, HN4.out.b.size⟩

end Go.Proofs.Ytkopfnldgnkkoaa
