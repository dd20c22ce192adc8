/-
  DEVICES OF N WORDS: Fence, Loose.
-/
import Derived.Test.YtkopfnldgnkkoaaDvD
namespace Go.Proofs.Ytkopfnldgnkkoaa
open Go.RowKit Go.Shelf
set_option linter.unusedVariables false
attribute [local go_sem] Oper.semAt_some

def fenceW (x : Wd) : Wd := if x.flushed then { settleW x x.value with loose := x.again, again := x.again } else x
theorem upd_self (f : Nat → Wd) (k : Nat) (x : Wd) (h : x = f k) : upd f k x = f := by funext i; unfold upd; split <;> simp_all
theorem DevAt.putDone {W : World} {d b N D : Nat} {f : Nat → Wd} (h : DevAt W d b N f) (hd : d < D) (hb : b < D) : DevAt (W.putObj D (.deferred none)) d b N f :=
  h.up (t := D) ⟨rfl, rfl, rfl, by simp [World.putObj], fun k hk hn => World.putObj_heap_other hn⟩ (by omega) (by omega)
def lsL (N : Nat) (f : Nat → Wd) : List (Fin N) := looseL N (fun k => (f (0 + k)).loose) N

set_option maxRecDepth 100000 in
set_option maxHeartbeats 4000000 in
theorem fence_any (d b N : Nat) (f : Nat → Wd) (w : World) (h : DevAt w d b N f) :
    Calls Try.prog 92 #[.pointer (some ⟨d, 0, none⟩)] w (DevG w d b N (gone (fun _ => fenceW) 0 0 (lsL N f) f)) := by
  have hs := h.s
  have HD := Lib.hid h
  have hdl := h.dlt
  have hbl := h.blt
  have hle := h.le
  clear h
  refine (callsIn_wide (n := 9)).1 ?_
  refine callsIn_of_wp_marks Try.func92 rfl trivial ?_ rfl
  simp only [Try.ntmps92, List.size_toArray, List.length_cons, List.length_nil, Nat.reduceAdd, Nat.reduceSub, Array.replicate_succ, Array.replicate_zero, List.push_toArray, List.append_toArray, List.nil_append, List.cons_append]
  gi_wp2_with (refine ⟨trivial, ?_⟩; gi_at_call 61; refine (loose_in Fence.wide _ trivial rfl _ _ _ _).mono ?_; rintro e w' ⟨rfl, rfl⟩)
  have hB1 : (w.alloc (.cells #[.slice (some ⟨b, 0, none⟩) N N] 115)).cell? ⟨w.heap.size, 0, none⟩ = some (.slice (some ⟨b, 0 * 6, none⟩) N N) := by
    have := World.cell?_alloc_new w #[.slice (some ⟨b, 0, none⟩) N N] 115 0
    rw [this]; simp
  have hN0 : Nw w (w.alloc (.cells #[.slice (some ⟨b, 0, none⟩) N N] 115)) := Nw.refl.alloc _
  have hs0 : (w.alloc (.cells #[.slice (some ⟨b, 0, none⟩) N N] 115)).heap.size = w.heap.size + 1 := by simp
  have hD0 := HD.out.nw hN0
  generalize hW0 : w.alloc (.cells #[.slice (some ⟨b, 0, none⟩) N N] 115) = W0 at *
  refine wpIn_range_K rfl (by omega) (gf := 81) (lb := #[.pointer (some ⟨w.heap.size, 0, none⟩)]) rfl trivial (enters_of Try.func81 (by kernel_rfl) rfl)
    (fun _ => rfl) (GoneI W0 d b N (fun _ => fenceW) 0 f) (fun _ _ _ => False)
    (loose_stops Fence.wide _ trivial rfl (by omega) w.heap.size b 0 N N (by omega) (fun k => (f (0 + k)).loose) (GoneI W0 d b N (fun _ => fenceW) 0 f)
      (fun pre W hi => hi.2.cell hB1 (by dsimp only; omega))
      (fun pre W k hk hi hp => by
        have := hi.1.a.c2 (0 + k) (by omega)
        rw [gone_other _ _ _ _ (fun x hx => by have := hp x hx; omega)] at this
        rw [← this]; congr 2; omega) W0)
    (goneI_own W0 d b N _ _ f (by omega) (by omega)) (fun _ _ _ _ _ hs _ _ => hs) ⟨hD0, .refl _ _⟩
    (fun x t => t.setIfInBounds 3 (.pointer (some ⟨b, 0 * 6 + x.1 * 6, none⟩)))
    ?assign ?body ?done ?stop
  case assign =>
    rintro l pre x W K hi hK
    obtain ⟨xx, hxx⟩ : ∃ xx, 0 * 6 + x.1 * 6 = xx := ⟨_, rfl⟩
    unfold wE at hK ⊢
    rw [hxx] at hK ⊢
    simp [Array.zip, go_sem] at hK ⊢
    gi_wp2
    exact hK
  case body =>
    rintro l pre x W hl _ hi _
    have hx16 : x.1 < N := x.2
    have HN := Lib.hid (fun W' => GoneI.next (W' := W') hi x)
    have hA := hi.1.a
    clear hi
    generalize hg : gone (fun _ => fenceW) 0 0 pre f = g at hA HN
    have c3 := hA.c3 (0 + x.1) (by omega)
    have c4 := hA.c4 (0 + x.1) (by omega)
    have c5 := hA.c5 (0 + x.1) (by omega)
    have f2 := hA.fr ((0 + x.1) * 6 + 2)
    have f4 := hA.fr ((0 + x.1) * 6 + 4)
    have HC := Lib.hid (settle_any b N g (0 + x.1) (by omega) (g (0 + x.1)).value W hA)
    have HA := Lib.hid hA
    clear hA
    unfold wE
    simp only [Nat.zero_mul, Nat.zero_add] at *
    simp [Array.zip, go_sem]
    cases hfl : (g x.1).flushed
    · rw [hfl] at c3
      gi_wp2
      refine ⟨KeepsFrom.refl _ _, HN.out _ ?_ (Up.refl _ _)⟩
      rw [upd_self _ _ _ (by simp [fenceW, hfl])]
      exact HA.out
    · rw [hfl] at c3
      gi_wp2_with (refine ⟨trivial, ?_⟩; gi_at_call 65; refine (CallsIn.inRound l (callsIn_wide.2 HC.out)).mono ?_; rintro e w' ⟨⟨u, rfl⟩, h1, h2⟩; have e2 := h1.c2 x.1 hx16; have e4 := h1.c4 x.1 hx16; have r2 := h1.fr (x.1 * 6 + 2); have r4 := h1.fr (x.1 * 6 + 4); have H1 := Lib.hid h1; have H2 := Lib.hid h2; clear h1 h2)
      have u := ((Up.refl b w').set (x.1 * 6 + 2) (.bool (g x.1).again)).set (x.1 * 6 + 4) (.bool (g x.1).again)
      refine ⟨(H2.out.trans u).keepsFrom (by omega), HN.out _ ?_ (H2.out.trans u)⟩
      have := (H1.out.set2 x.1 hx16 (g x.1).again).set4 x.1 hx16 (g x.1).again
      simpa only [upd_upd, upd_same, fenceW, hfl, if_true] using this
  case done =>
    rintro D xs W hD rfl hi hK
    have HI := Lib.hid hi
    clear hi
    gi_wp2
    refine ⟨by simp, .inl ⟨_, _, rfl, run_takeDeferred hK, ?_⟩⟩
    exact ⟨.int .i64 0, by simp [results, Try.f92, go_sem], rfl, HI.out.1.putDone (by omega) (by omega), HI.out.2.putDone hN0 hD⟩
  case stop =>
    rintro D c pre W _ _ h _
    exact h.elim
def fenceU (f : Nat → Wd) : Nat → Wd := fun k => if (f k).loose = true then fenceW (f k) else f k
theorem gone_all (op : Nat → Wd → Wd) (op' : Wd → Wd) (N : Nat) (f : Nat → Wd) (hop : ∀ j, j < N → ∀ x, op j x = op' x) (k : Nat) (hk : k < N) : gone op 0 0 (lsL N f) f k = if (f k).loose = true then op' (f k) else f k := by
  rw [lsL, gone_loose op op' 0 N f hop k]
  by_cases h : (f k).loose = true
  · rw [if_pos h, if_pos ⟨by omega, by omega, h⟩]
  · rw [if_neg h, if_neg (fun hh => h hh.2.2)]
theorem fenced_any (d b N : Nat) (f : Nat → Wd) (w : World) (h : DevAt w d b N f) :
    Calls Try.prog 92 #[.pointer (some ⟨d, 0, none⟩)] w (DevG w d b N (fenceU f)) :=
  (fence_any d b N f w h).mono fun _ _ hh => hh.congr (fun k hk => gone_all (fun _ => fenceW) fenceW N f (fun _ _ _ => rfl) k hk)
def looseN (N : Nat) (f : Nat → Wd) : Nat := (lsL N f).length
theorem looseN_zero (N : Nat) (f : Nat → Wd) : looseN N f = 0 ↔ ∀ k, k < N → (f k).loose = false := by
  unfold looseN
  rw [List.length_eq_zero_iff]
  constructor
  · intro h k hk
    have := (looseL_mem (m := N) (fl := fun k => (f (0 + k)).loose) ⟨k, hk⟩)
    rw [show looseL N (fun k => (f (0 + k)).loose) N = lsL N f from rfl, h] at this
    simp at this
    exact this
  · intro h
    rw [List.eq_nil_iff_forall_not_mem]
    intro x hx
    have := (looseL_mem (m := N) (fl := fun k => (f (0 + k)).loose) x).1 hx
    have h2 := h x.1 x.2
    simp at this
    rw [this] at h2
    cases h2

/-- What is kept while loose words are told. -/
def LooseI (W0 : World) (B d b N : Nat) (f : Nat → Wd) (pre : List (Fin N)) (W : World) : Prop :=
  Boxed W B 3 (.int .i64 pre.length) ∧ DevAt W d b N f ∧ Up B W0 W
theorem looseI_own (W0 : World) (B d b N : Nat) (f : Nat → Wd) (hd : d < W0.heap.size) (hb : b < W0.heap.size) : OwnFrom W0.heap.size (LooseI W0 B d b N f) := by
  rintro pre W W' row ⟨h0, h1, h2⟩ hg hr
  have hf := row_far h2.size hr
  refine ⟨(Own.from (boxed_own _ _ (fun pre : List (Fin N) => Value.int .i64 pre.length)) W0.heap.size) pre W W' row h0 hg hr, h1.up (up_of_grown hg) (by omega) (by omega), ?_⟩
  exact ⟨hg.os.trans h2.os, hg.tape.trans h2.tape, hg.output.trans h2.output, Nat.le_trans h2.size hg.size, fun k hk hn => ((up_of_grown hg).block k (by have := h2.size; omega) (by omega)).trans (h2.block k hk hn)⟩
set_option maxRecDepth 100000 in
set_option maxHeartbeats 4000000 in
theorem loose_any (d b N : Nat) (f : Nat → Wd) (w : World) (h : DevAt w d b N f) :
    Calls Try.prog 28 #[.pointer (some ⟨d, 0, none⟩)] w fun e w' => e = .returned (.int .i64 ((lsL N f).length : Nat)) ∧ Nw w w' := by
  have hdl := h.dlt
  have hbl := h.blt
  have hle := h.le
  have hN00 : Nw w (w.alloc (.cells #[.int .i64 0] 3)) := Nw.refl.alloc _
  have HD := Lib.hid (h.nw hN00)
  have hs := (h.nw hN00).s
  clear h
  refine (callsIn_wide (n := 9)).1 ?_
  refine callsIn_of_wp_marks Try.func28 rfl trivial ?_ rfl
  simp only [Try.ntmps28, List.size_toArray, List.length_cons, List.length_nil, Nat.reduceAdd, Nat.reduceSub, Array.replicate_succ, Array.replicate_zero, List.push_toArray, List.append_toArray, List.nil_append, List.cons_append]
  gi_wp2_with (refine ⟨trivial, ?_⟩; gi_at_call 61; refine (loose_in Fence.wide _ trivial rfl _ _ _ _).mono ?_; rintro e w' ⟨rfl, rfl⟩)
  have hB1 : ((w.alloc (.cells #[.int .i64 0] 3)).alloc (.cells #[.slice (some ⟨b, 0, none⟩) N N] 115)).cell? ⟨w.heap.size + 1, 0, none⟩ = some (.slice (some ⟨b, 0 * 6, none⟩) N N) := by
    have := World.cell?_alloc_new (w.alloc (.cells #[.int .i64 0] 3)) #[.slice (some ⟨b, 0, none⟩) N N] 115 0
    rw [World.size_alloc] at this
    rw [this]; simp
  have hN0 : Nw w ((w.alloc (.cells #[.int .i64 0] 3)).alloc (.cells #[.slice (some ⟨b, 0, none⟩) N N] 115)) := hN00.alloc _
  have hs0 : ((w.alloc (.cells #[.int .i64 0] 3)).alloc (.cells #[.slice (some ⟨b, 0, none⟩) N N] 115)).heap.size = w.heap.size + 2 := by simp
  have hD0 := HD.out.nw (Nw.refl.alloc (.cells #[.slice (some ⟨b, 0, none⟩) N N] 115))
  have hb0 : Boxed ((w.alloc (.cells #[.int .i64 0] 3)).alloc (.cells #[.slice (some ⟨b, 0, none⟩) N N] 115)) w.heap.size 3 (.int .i64 0) := (Boxed.new w _ _).alloc _
  generalize hW0 : (w.alloc (.cells #[.int .i64 0] 3)).alloc (.cells #[.slice (some ⟨b, 0, none⟩) N N] 115) = W0 at *
  refine wpIn_range_K rfl (by omega) (gf := 81) (lb := #[.pointer (some ⟨w.heap.size + 1, 0, none⟩)]) rfl trivial (enters_of Try.func81 (by kernel_rfl) rfl)
    (fun _ => rfl) (LooseI W0 w.heap.size d b N f) (fun _ _ _ => False)
    (loose_stops Fence.wide _ trivial rfl (by omega) (w.heap.size + 1) b 0 N N (by omega) (fun k => (f (0 + k)).loose) (LooseI W0 w.heap.size d b N f)
      (fun pre W hi => hi.2.2.cell hB1 (by dsimp only; omega))
      (fun pre W k hk hi hp => by
        have := hi.2.1.a.c2 (0 + k) (by omega)
        rw [← this]; congr 2; omega) W0)
    (looseI_own W0 _ d b N f (by omega) (by omega)) (fun _ _ _ _ _ hs _ _ => hs) ⟨hb0, hD0, .refl _ _⟩
    (fun x t => t)
    ?assign ?body ?done ?stop
  case assign =>
    rintro l pre x W K hi hK
    unfold wE at hK ⊢
    simp [Array.zip, go_sem] at hK ⊢
    gi_wp2
    exact hK
  case body =>
    rintro l pre x W hl _ hi hlt
    obtain ⟨h0, h1, h2⟩ := hi
    have c0 := h0.cell
    have f0 := h0.frozen
    have HB := Lib.hid h0
    have HD1 := Lib.hid h1
    have HU := Lib.hid h2
    have hsz := h2.size
    clear h0 h1 h2
    unfold wE
    simp [Array.zip, go_sem]
    gi_wp2
    have u := (Up.refl w.heap.size W).set 0 (.int .i64 (pre.length + 1))
    refine ⟨u.keepsFrom (by omega), ?_, HD1.out.up u (by omega) (by omega), HU.out.trans u⟩
    rw [List.length_append]
    exact HB.out.set _
  case done =>
    rintro D xs W hD rfl ⟨h0, h1, h2⟩ hK
    have c0 := h0.cell
    have f0 := h0.frozen
    have HB := Lib.hid h0
    have HU := Lib.hid h2
    have hne0 : D ≠ w.heap.size := by omega
    obtain ⟨M, hM⟩ : ∃ M, (lsL N f).length = M := ⟨_, rfl⟩
    rw [show looseL N (fun k => (f (0 + k)).loose) N = lsL N f from rfl, hM] at c0 HB
    clear h0 h2
    gi_wp2
    have hK2 := (Below.heap_setCell W ⟨w.heap.size, 0, none⟩ (.int .i64 M) D hne0).trans hK
    refine ⟨by simp, .inl ⟨_, _, rfl, run_takeDeferred hK2, ?_⟩⟩
    have bO2 := HB.out.set (.int .i64 M)
    have bO3 : Boxed ((W.setCell ⟨w.heap.size, 0, none⟩ (.int .i64 M)).putObj D (.deferred none)) w.heap.size 3 (.int .i64 M) := (World.putObj_heap_other (Ne.symm hne0)).trans bO2
    have hc2 := bO3.cell
    have hu : Up w.heap.size W0 (W.setCell ⟨w.heap.size, 0, none⟩ (.int .i64 M)) := HU.out.trans ((Up.refl w.heap.size W).set 0 _)
    have hf := Up.putDone hu hN0 hD
    generalize (W.setCell ⟨w.heap.size, 0, none⟩ (.int .i64 M)).putObj D (.deferred none) = W9 at *
    exact ⟨.int .i64 M, by simp [results, Try.f28, go_sem, hc2], by rw [hM], ⟨⟨hf.os, hf.tape, hf.output, hf.size, fun k hk => hf.block k hk (by omega)⟩⟩⟩
  case stop =>
    rintro D c pre W _ _ h _
    exact h.elim

end Go.Proofs.Ytkopfnldgnkkoaa
