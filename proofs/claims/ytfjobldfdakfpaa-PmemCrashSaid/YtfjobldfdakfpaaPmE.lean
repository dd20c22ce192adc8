/-
  DEVICES: Fence, Loose; of no device.
-/
import Derived.Test.YtfjobldfdakfpaaPmD
namespace Go.Proofs.Ytfjobldfdakfpaa
open Go.RowKit Go.Shelf
set_option linter.unusedVariables false
attribute [local go_sem] Oper.semAt_some

def fenceW (x : Wd) : Wd := if x.flushed then { settleW x x.value with loose := x.again, again := x.again } else x
theorem upd_self (f : Nat → Wd) (k : Nat) (x : Wd) (h : x = f k) : upd f k x = f := by funext i; unfold upd; split <;> simp_all
theorem Up.putDone {b D : Nat} {w W0 W : World} (h : Up b W0 W) (hN : Nw w W0) (hD : W0.heap.size ≤ D) : Up b w (W.putObj D (.deferred none)) :=
  (Up.of_nw hN).trans ⟨h.os, h.tape, h.output, by have := h.size; simpa [World.putObj] using this, fun k hk hn => (World.putObj_heap_other (by omega)).trans (h.block k hk hn)⟩
theorem DevAt.putDone {W : World} {d b D : Nat} {f : Nat → Wd} (h : DevAt W d b f) (hd : d < D) (hb : b < D) : DevAt (W.putObj D (.deferred none)) d b f :=
  h.up (t := D) ⟨rfl, rfl, rfl, by simp [World.putObj], fun k hk hn => World.putObj_heap_other hn⟩ (by omega) (by omega)
def lsL (f : Nat → Wd) : List (Fin 16) := looseL 16 (fun k => (f (0 + k)).loose) 16

set_option maxRecDepth 100000 in
set_option maxHeartbeats 4000000 in
theorem fence_any (d b : Nat) (f : Nat → Wd) (w : World) (h : DevAt w d b f) :
    Calls Try.prog 10 #[.pointer (some ⟨d, 0, none⟩)] w (DevG w d b (gone (fun _ => fenceW) 0 0 (lsL f) f)) := by
  have hs := h.s
  have HD := Lib.hid h
  have hdl := (cell_lt h.s).1
  have hbl := (cell_lt (h.a.c0 0 (by omega))).1
  dsimp only at hdl hbl
  clear h
  refine (callsIn_wide (n := 9)).1 ?_
  refine callsIn_of_wp_marks Try.func10 rfl trivial ?_ rfl
  simp only [Try.ntmps10, List.size_toArray, List.length_cons, List.length_nil, Nat.reduceAdd, Nat.reduceSub, Array.replicate_succ, Array.replicate_zero, List.push_toArray, List.append_toArray, List.nil_append, List.cons_append]
  gi_wp2_with (refine ⟨trivial, ?_⟩; gi_at_call 22; refine (loose_in Fence.wide _ trivial rfl _ _ _ _).mono ?_; rintro e w' ⟨rfl, rfl⟩)
  have hB1 : (w.alloc (.cells #[.slice (some ⟨b, 0, none⟩) 16 16] 53)).cell? ⟨w.heap.size, 0, none⟩ = some (.slice (some ⟨b, 0 * 6, none⟩) 16 16) := by
    have := World.cell?_alloc_new w #[.slice (some ⟨b, 0, none⟩) 16 16] 53 0
    rw [this]; simp
  have hN0 : Nw w (w.alloc (.cells #[.slice (some ⟨b, 0, none⟩) 16 16] 53)) := Nw.refl.alloc _
  have hs0 : (w.alloc (.cells #[.slice (some ⟨b, 0, none⟩) 16 16] 53)).heap.size = w.heap.size + 1 := by simp
  have hD0 := HD.out.nw hN0
  generalize hW0 : w.alloc (.cells #[.slice (some ⟨b, 0, none⟩) 16 16] 53) = W0 at *
  refine wpIn_range_K rfl (by omega) (gf := 31) (lb := #[.pointer (some ⟨w.heap.size, 0, none⟩)]) rfl trivial (enters_of Try.func31 (by kernel_rfl) rfl)
    (fun _ => rfl) (GoneI W0 d b (fun _ => fenceW) 0 f) (fun _ _ _ => False)
    (loose_stops Fence.wide _ trivial rfl (by omega) w.heap.size b 0 16 16 (by omega) (fun k => (f (0 + k)).loose) (GoneI W0 d b (fun _ => fenceW) 0 f)
      (fun pre W hi => hi.2.cell hB1 (by dsimp only; omega))
      (fun pre W k hk hi hp => by
        have := hi.1.a.c2 (0 + k) (by omega)
        rw [gone_other _ _ _ _ (fun x hx => by have := hp x hx; omega)] at this
        rw [← this]; congr 2; omega) W0)
    (goneI_own W0 d b _ _ f (by omega) (by omega)) (fun _ _ _ _ _ hs _ _ => hs) ⟨hD0, .refl _ _⟩
    (fun x t => t.setIfInBounds 3 (.pointer (some ⟨b, 0 * 6 + x.1 * 6, none⟩)))
    ?assign ?body ?done ?stop
  case assign =>
    rintro l pre x W K hi hK
    obtain ⟨xx, hxx⟩ : ∃ xx, 0 * 6 + x.1 * 6 = xx := ⟨_, rfl⟩
    unfold wE at hK ⊢
    rw [hxx] at hK ⊢
    simp [Array.zip, go_sem] at hK ⊢
    gi_wp2
    exact hK
  case body =>
    rintro l pre x W hl _ hi _
    have hx16 := x.2
    have HN := Lib.hid (fun W' => GoneI.next (W' := W') hi x)
    have hA := hi.1.a
    clear hi
    generalize hg : gone (fun _ => fenceW) 0 0 pre f = g at hA HN
    have c3 := hA.c3 (0 + x.1) (by omega)
    have c4 := hA.c4 (0 + x.1) (by omega)
    have c5 := hA.c5 (0 + x.1) (by omega)
    have f2 := hA.fr ((0 + x.1) * 6 + 2)
    have f4 := hA.fr ((0 + x.1) * 6 + 4)
    have HC := Lib.hid (settle_any b 16 g (0 + x.1) (by omega) (g (0 + x.1)).value W hA)
    have HA := Lib.hid hA
    clear hA
    unfold wE
    simp only [Nat.zero_mul, Nat.zero_add] at *
    simp [Array.zip, go_sem]
    cases hfl : (g x.1).flushed
    · rw [hfl] at c3
      gi_wp2
      refine ⟨KeepsFrom.refl _ _, HN.out _ ?_ (Up.refl _ _)⟩
      rw [upd_self _ _ _ (by simp [fenceW, hfl])]
      exact HA.out
    · rw [hfl] at c3
      gi_wp2_with (refine ⟨trivial, ?_⟩; gi_at_call 23; refine (CallsIn.inRound l (callsIn_wide.2 HC.out)).mono ?_; rintro e w' ⟨⟨u, rfl⟩, h1, h2⟩; have e2 := h1.c2 x.1 hx16; have e4 := h1.c4 x.1 hx16; have r2 := h1.fr (x.1 * 6 + 2); have r4 := h1.fr (x.1 * 6 + 4); have H1 := Lib.hid h1; have H2 := Lib.hid h2; clear h1 h2)
      have u := ((Up.refl b w').set (x.1 * 6 + 2) (.bool (g x.1).again)).set (x.1 * 6 + 4) (.bool (g x.1).again)
      refine ⟨(H2.out.trans u).keepsFrom (by omega), HN.out _ ?_ (H2.out.trans u)⟩
      have := (H1.out.set2 x.1 hx16 (g x.1).again).set4 x.1 hx16 (g x.1).again
      simpa only [upd_upd, upd_same, fenceW, hfl, if_true] using this
  case done =>
    rintro D xs W hD rfl hi hK
    have HI := Lib.hid hi
    clear hi
    gi_wp2
    refine ⟨by simp, .inl ⟨_, _, rfl, run_takeDeferred hK, ?_⟩⟩
    exact ⟨.int .i64 0, by simp [results, Try.f10, go_sem], rfl, HI.out.1.putDone (by omega) (by omega), HI.out.2.putDone hN0 hD⟩
  case stop =>
    rintro D c pre W _ _ h _
    exact h.elim
set_option maxHeartbeats 1000000 in
theorem fence_nil (w : World) :
    Calls Try.prog 10 #[.pointer none] w fun e w' => e = .returned (.int .i64 2) ∧ w = w' := by
  go_enter Try.func10, Try.ntmps10
  go_wp2_with fail
  go_ret
  exact ⟨rfl, rfl⟩

/-- What is kept while loose words are told. -/
def LooseI (W0 : World) (B d b : Nat) (f : Nat → Wd) (pre : List (Fin 16)) (W : World) : Prop :=
  Boxed W B 3 (.int .i64 pre.length) ∧ DevAt W d b f ∧ Up B W0 W
theorem looseI_own (W0 : World) (B d b : Nat) (f : Nat → Wd) (hd : d < W0.heap.size) (hb : b < W0.heap.size) : OwnFrom W0.heap.size (LooseI W0 B d b f) := by
  rintro pre W W' row ⟨h0, h1, h2⟩ hg hr
  have hf := row_far h2.size hr
  refine ⟨(Own.from (boxed_own _ _ (fun pre : List (Fin 16) => Value.int .i64 pre.length)) W0.heap.size) pre W W' row h0 hg hr, h1.up (up_of_grown hg) (by omega) (by omega), ?_⟩
  exact ⟨hg.os.trans h2.os, hg.tape.trans h2.tape, hg.output.trans h2.output, Nat.le_trans h2.size hg.size, fun k hk hn => ((up_of_grown hg).block k (by have := h2.size; omega) (by omega)).trans (h2.block k hk hn)⟩
set_option maxRecDepth 100000 in
set_option maxHeartbeats 4000000 in
theorem loose_any (d b : Nat) (f : Nat → Wd) (w : World) (h : DevAt w d b f) :
    Calls Try.prog 11 #[.pointer (some ⟨d, 0, none⟩)] w fun e w' => e = .returned (.int .i64 ((lsL f).length : Nat)) ∧ Nw w w' := by
  have hdl := (cell_lt h.s).1
  have hbl := (cell_lt (h.a.c0 0 (by omega))).1
  dsimp only at hdl hbl
  have hN00 : Nw w (w.alloc (.cells #[.int .i64 0] 3)) := Nw.refl.alloc _
  have HD := Lib.hid (h.nw hN00)
  have hs := (h.nw hN00).s
  clear h
  refine (callsIn_wide (n := 9)).1 ?_
  refine callsIn_of_wp_marks Try.func11 rfl trivial ?_ rfl
  simp only [Try.ntmps11, List.size_toArray, List.length_cons, List.length_nil, Nat.reduceAdd, Nat.reduceSub, Array.replicate_succ, Array.replicate_zero, List.push_toArray, List.append_toArray, List.nil_append, List.cons_append]
  gi_wp2_with (refine ⟨trivial, ?_⟩; gi_at_call 22; refine (loose_in Fence.wide _ trivial rfl _ _ _ _).mono ?_; rintro e w' ⟨rfl, rfl⟩)
  have hB1 : ((w.alloc (.cells #[.int .i64 0] 3)).alloc (.cells #[.slice (some ⟨b, 0, none⟩) 16 16] 53)).cell? ⟨w.heap.size + 1, 0, none⟩ = some (.slice (some ⟨b, 0 * 6, none⟩) 16 16) := by
    have := World.cell?_alloc_new (w.alloc (.cells #[.int .i64 0] 3)) #[.slice (some ⟨b, 0, none⟩) 16 16] 53 0
    rw [World.size_alloc] at this
    rw [this]; simp
  have hN0 : Nw w ((w.alloc (.cells #[.int .i64 0] 3)).alloc (.cells #[.slice (some ⟨b, 0, none⟩) 16 16] 53)) := hN00.alloc _
  have hs0 : ((w.alloc (.cells #[.int .i64 0] 3)).alloc (.cells #[.slice (some ⟨b, 0, none⟩) 16 16] 53)).heap.size = w.heap.size + 2 := by simp
  have hD0 := HD.out.nw (Nw.refl.alloc (.cells #[.slice (some ⟨b, 0, none⟩) 16 16] 53))
  have hb0 : Boxed ((w.alloc (.cells #[.int .i64 0] 3)).alloc (.cells #[.slice (some ⟨b, 0, none⟩) 16 16] 53)) w.heap.size 3 (.int .i64 0) := (Boxed.new w _ _).alloc _
  generalize hW0 : (w.alloc (.cells #[.int .i64 0] 3)).alloc (.cells #[.slice (some ⟨b, 0, none⟩) 16 16] 53) = W0 at *
  refine wpIn_range_K rfl (by omega) (gf := 31) (lb := #[.pointer (some ⟨w.heap.size + 1, 0, none⟩)]) rfl trivial (enters_of Try.func31 (by kernel_rfl) rfl)
    (fun _ => rfl) (LooseI W0 w.heap.size d b f) (fun _ _ _ => False)
    (loose_stops Fence.wide _ trivial rfl (by omega) (w.heap.size + 1) b 0 16 16 (by omega) (fun k => (f (0 + k)).loose) (LooseI W0 w.heap.size d b f)
      (fun pre W hi => hi.2.2.cell hB1 (by dsimp only; omega))
      (fun pre W k hk hi hp => by
        have := hi.2.1.a.c2 (0 + k) (by omega)
        rw [← this]; congr 2; omega) W0)
    (looseI_own W0 _ d b f (by omega) (by omega)) (fun _ _ _ _ _ hs _ _ => hs) ⟨hb0, hD0, .refl _ _⟩
    (fun x t => t)
    ?assign ?body ?done ?stop
  case assign =>
    rintro l pre x W K hi hK
    unfold wE at hK ⊢
    simp [Array.zip, go_sem] at hK ⊢
    gi_wp2
    exact hK
  case body =>
    rintro l pre x W hl _ hi hlt
    obtain ⟨h0, h1, h2⟩ := hi
    have c0 := h0.cell
    have f0 := h0.frozen
    have HB := Lib.hid h0
    have HD1 := Lib.hid h1
    have HU := Lib.hid h2
    have hsz := h2.size
    clear h0 h1 h2
    unfold wE
    simp [Array.zip, go_sem]
    gi_wp2
    have u := (Up.refl w.heap.size W).set 0 (.int .i64 (pre.length + 1))
    refine ⟨u.keepsFrom (by omega), ?_, HD1.out.up u (by omega) (by omega), HU.out.trans u⟩
    rw [List.length_append]
    exact HB.out.set _
  case done =>
    rintro D xs W hD rfl ⟨h0, h1, h2⟩ hK
    have c0 := h0.cell
    have f0 := h0.frozen
    have HB := Lib.hid h0
    have HU := Lib.hid h2
    have hne0 : D ≠ w.heap.size := by omega
    obtain ⟨N, hN⟩ : ∃ N, (lsL f).length = N := ⟨_, rfl⟩
    rw [show looseL 16 (fun k => (f (0 + k)).loose) 16 = lsL f from rfl, hN] at c0 HB
    clear h0 h2
    gi_wp2
    have hK2 := (Below.heap_setCell W ⟨w.heap.size, 0, none⟩ (.int .i64 N) D hne0).trans hK
    refine ⟨by simp, .inl ⟨_, _, rfl, run_takeDeferred hK2, ?_⟩⟩
    have bO2 := HB.out.set (.int .i64 N)
    have bO3 : Boxed ((W.setCell ⟨w.heap.size, 0, none⟩ (.int .i64 N)).putObj D (.deferred none)) w.heap.size 3 (.int .i64 N) := (World.putObj_heap_other (Ne.symm hne0)).trans bO2
    have hc2 := bO3.cell
    have hu : Up w.heap.size W0 (W.setCell ⟨w.heap.size, 0, none⟩ (.int .i64 N)) := HU.out.trans ((Up.refl w.heap.size W).set 0 _)
    have hf := Up.putDone hu hN0 hD
    generalize (W.setCell ⟨w.heap.size, 0, none⟩ (.int .i64 N)).putObj D (.deferred none) = W9 at *
    exact ⟨.int .i64 N, by simp [results, Try.f11, go_sem, hc2], by rw [hN], ⟨⟨hf.os, hf.tape, hf.output, hf.size, fun k hk => hf.block k hk (by omega)⟩⟩⟩
  case stop =>
    rintro D c pre W _ _ h _
    exact h.elim
set_option maxHeartbeats 1000000 in
theorem loose_nil (w : World) :
    Calls Try.prog 11 #[.pointer none] w fun e w' => e = .returned (.int .i64 0) ∧ Nw w w' := by
  go_enter Try.func11, Try.ntmps11
  go_wp2_with fail
  refine bodyPost_ret (show _ = Result.ok (.int .i64 0) (w.alloc (.cells #[.int .i64 0] 3)) from by simp [results, Try.f11, go_sem]) rfl ?_
  exact ⟨rfl, Nw.refl.alloc _⟩

end Go.Proofs.Ytfjobldfdakfpaa
