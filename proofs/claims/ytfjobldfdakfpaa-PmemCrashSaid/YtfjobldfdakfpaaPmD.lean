/-
  DEVICES: what is done with the loose words of a line; Flush, Evict.
-/
import Derived.Test.YtfjobldfdakfpaaPmC
import Derived.Test.YtfjobldfdakfpaaRangeK
namespace Go.Proofs.Ytfjobldfdakfpaa
open Go.RowKit Go.Shelf
set_option linter.unusedVariables false
attribute [local go_sem] Oper.semAt_some

/-- Words, gone through in turn. -/
def gone (op : Nat → Wd → Wd) (o : Nat) {m : Nat} : Nat → List (Fin m) → (Nat → Wd) → Nat → Wd
  | _, [], f => f
  | i, x :: r, f => gone op o (i + 1) r (upd f (o + x.1) (op i (f (o + x.1))))
theorem gone_snoc (op : Nat → Wd → Wd) (o : Nat) {m : Nat} (pre : List (Fin m)) (x : Fin m) : ∀ (i : Nat) (f : Nat → Wd), gone op o i (pre ++ [x]) f = upd (gone op o i pre f) (o + x.1) (op (i + pre.length) (gone op o i pre f (o + x.1))) := by
  induction pre with
  | nil => intro i f; rfl
  | cons y r ih => intro i f; simp only [List.cons_append, gone, List.length_cons]; rw [ih, show i + 1 + r.length = i + (r.length + 1) by omega]
theorem gone_other (op : Nat → Wd → Wd) (o : Nat) {m : Nat} (pre : List (Fin m)) (k : Nat) (h : ∀ x ∈ pre, o + x.1 ≠ k) : ∀ (i : Nat) (f : Nat → Wd), gone op o i pre f k = f k := by
  induction pre with
  | nil => intro i f; rfl
  | cons y r ih =>
    intro i f
    simp only [gone]
    rw [ih (fun x hx => h x (List.mem_cons_of_mem _ hx)), upd, if_neg (fun e => h y List.mem_cons_self e.symm)]
theorem up_of_grown {W W' : World} {row : Option Nat} (h : W.grownBy W' row) : Up (row.getD W.heap.size) W W' :=
  ⟨h.os, h.tape, h.output, h.size, fun k hk hn => h.block k hk (fun e => hn (by rw [← e]; rfl))⟩
theorem row_far {B : Nat} {W : World} {row : Option Nat} (hB : B ≤ W.heap.size) (hr : ∀ r, row = some r → B ≤ r ∧ ∃ o : Obj, W.heap[r]? = some o ∧ o.isCells = false) : B ≤ row.getD W.heap.size := by
  cases row with
  | none => exact hB
  | some r => exact (hr r rfl).1
/-- What is kept while words are gone through. -/
def GoneI (W0 : World) (d b : Nat) (op : Nat → Wd → Wd) (o : Nat) (f : Nat → Wd) {m : Nat} (pre : List (Fin m)) (W : World) : Prop :=
  DevAt W d b (gone op o 0 pre f) ∧ Up b W0 W
theorem goneI_own (W0 : World) (d b : Nat) (op : Nat → Wd → Wd) (o : Nat) (f : Nat → Wd) {m : Nat} (hd : d < W0.heap.size) (hb : b < W0.heap.size) : OwnFrom W0.heap.size (GoneI W0 d b op o f (m := m)) := by
  rintro pre W W' row ⟨h1, h2⟩ hg hr
  have hf := row_far h2.size hr
  refine ⟨h1.up (up_of_grown hg) (by omega) (by omega), ?_⟩
  exact ⟨hg.os.trans h2.os, hg.tape.trans h2.tape, hg.output.trans h2.output, Nat.le_trans h2.size hg.size, fun k hk hn => ((up_of_grown hg).block k (by have := h2.size; omega) (by omega)).trans (h2.block k hk hn)⟩
theorem Up.keepsFrom {t B : Nat} {W W' : World} (h : Up t W W') (ht : t < B) : KeepsFrom B W W' :=
  ⟨h.size, fun k o hB hk ho => (h.block k (Array.getElem?_eq_some_iff.1 hk).1 (by omega)).trans hk⟩
theorem GoneI.next {W0 W W' : World} {d b : Nat} {op : Nat → Wd → Wd} {o : Nat} {f : Nat → Wd} {m : Nat} {pre : List (Fin m)} (h : GoneI W0 d b op o f pre W) (x : Fin m) (hx : WAt W' b 16 (upd (gone op o 0 pre f) (o + x.1) (op pre.length (gone op o 0 pre f (o + x.1))))) (hu : Up b W W') : GoneI W0 d b op o f (pre ++ [x]) W' := by
  refine ⟨?_, h.2.trans hu⟩
  rw [gone_snoc, Nat.zero_add]
  exact ⟨hu.cell h.1.s h.1.ne, hx, h.1.ne⟩
/-- A device from one moment to the next. -/
def DevG (w : World) (d b : Nat) (g : Nat → Wd) (e : Ending) (w' : World) : Prop := e = .returned (.int .i64 0) ∧ DevAt w' d b g ∧ Up b w w'

set_option maxRecDepth 100000 in
set_option maxHeartbeats 4000000 in
theorem line_f_0 (d b : Nat) (f : Nat → Wd) (w : World) (h : DevAt w d b f) :
    Calls Try.prog 28 #[.pointer (some ⟨d, 0, none⟩), .int .i64 0, .func (.func 29) #[] #[]] w (DevG w d b (gone (fun _ => flushW) 0 0 (looseL 8 (fun k => (f (0 + k)).loose) 8) f)) := by
  have hs := h.s
  have HD := Lib.hid h
  have hdl := (cell_lt h.s).1
  have hbl := (cell_lt (h.a.c0 0 (by omega))).1
  dsimp only at hdl hbl
  clear h
  refine (callsIn_wide (n := 9)).1 ?_
  refine callsIn_of_wp_marks Try.func28 rfl trivial ?_ rfl
  simp only [Try.ntmps28, List.size_toArray, List.length_cons, List.length_nil, Nat.reduceAdd, Nat.reduceSub, Array.replicate_succ, Array.replicate_zero, List.push_toArray, List.append_toArray, List.nil_append, List.cons_append]
  gi_wp2_with (refine ⟨trivial, ?_⟩; gi_at_call 22; refine (loose_in Fence.wide _ trivial rfl _ _ _ _).mono ?_; rintro e w' ⟨rfl, rfl⟩)
  have hB1 : ((w.alloc (.cells #[.func (.func 29) #[] #[]] 67)).alloc (.cells #[.slice (some ⟨b, 0 + 0 * 6, none⟩) 8 (16 - 0)] 53)).cell? ⟨w.heap.size + 1, 0, none⟩ = some (.slice (some ⟨b, 0 * 6, none⟩) 8 (16 - 0)) := by
    have := World.cell?_alloc_new (w.alloc (.cells #[.func (.func 29) #[] #[]] 67)) #[.slice (some ⟨b, 0 + 0 * 6, none⟩) 8 (16 - 0)] 53 0
    rw [World.size_alloc] at this
    rw [this]; simp
  have hB0 : ((w.alloc (.cells #[.func (.func 29) #[] #[]] 67)).alloc (.cells #[.slice (some ⟨b, 0 + 0 * 6, none⟩) 8 (16 - 0)] 53)).cell? ⟨w.heap.size, 0, none⟩ = some (.func (.func 29) #[] #[]) := by
    have := World.cell?_alloc_new w #[.func (.func 29) #[] #[]] 67 0
    refine ((Nw.refl.alloc _ : Nw (w.alloc (.cells #[.func (.func 29) #[] #[]] 67)) _).b.cell (p := ⟨w.heap.size, 0, none⟩) (by simp)).trans ?_
    rw [this]; rfl
  have hN0 : Nw w ((w.alloc (.cells #[.func (.func 29) #[] #[]] 67)).alloc (.cells #[.slice (some ⟨b, 0 + 0 * 6, none⟩) 8 (16 - 0)] 53)) := (Nw.refl.alloc _).alloc _
  have hs0 : ((w.alloc (.cells #[.func (.func 29) #[] #[]] 67)).alloc (.cells #[.slice (some ⟨b, 0 + 0 * 6, none⟩) 8 (16 - 0)] 53)).heap.size = w.heap.size + 2 := by simp
  have hD0 := HD.out.nw hN0
  generalize hW0 : (w.alloc (.cells #[.func (.func 29) #[] #[]] 67)).alloc (.cells #[.slice (some ⟨b, 0 + 0 * 6, none⟩) 8 (16 - 0)] 53) = W0 at *
  refine wpIn_range_K rfl (by omega) (gf := 31) (lb := #[.pointer (some ⟨w.heap.size + 1, 0, none⟩)]) rfl trivial (enters_of Try.func31 (by kernel_rfl) rfl)
    (fun _ => rfl) (GoneI W0 d b (fun _ => flushW) 0 f) (fun _ _ _ => False)
    (loose_stops Fence.wide _ trivial rfl (by omega) (w.heap.size + 1) b 0 8 (16 - 0) (by omega) (fun k => (f (0 + k)).loose) (GoneI W0 d b (fun _ => flushW) 0 f)
      (fun pre W hi => hi.2.cell hB1 (by dsimp only; omega))
      (fun pre W k hk hi hp => by
        have := hi.1.a.c2 (0 + k) (by omega)
        rw [gone_other _ _ _ _ (fun x hx => by have := hp x hx; omega)] at this
        rw [← this]; congr 2; omega) W0)
    (goneI_own W0 d b _ _ f (by omega) (by omega)) (fun _ _ _ _ _ hs _ _ => hs) ⟨hD0, .refl _ _⟩
    (fun x t => t.setIfInBounds 7 (.pointer (some ⟨b, 0 * 6 + x.1 * 6, none⟩)))
    ?assign ?body ?done ?stop
  case assign =>
    rintro l pre x W K hi hK
    obtain ⟨xx, hxx⟩ : ∃ xx, 0 * 6 + x.1 * 6 = xx := ⟨_, rfl⟩
    unfold wE at hK ⊢
    rw [hxx] at hK ⊢
    simp [Array.zip, go_sem] at hK ⊢
    gi_wp2
    exact hK
  case body =>
    rintro l pre x W hl _ hi _
    have hc := hi.2.cell hB0 (by dsimp only; omega)
    have HI := Lib.hid hi
    have HC := Lib.hid (flush1_any b 16 _ (0 + x.1) (by omega) W hi.1.a)
    clear hi
    unfold wE
    obtain ⟨xx, hxx⟩ : ∃ xx, 0 * 6 + x.1 * 6 = xx := ⟨_, rfl⟩
    rw [show (0 + x.1) * 6 = 0 * 6 + x.1 * 6 by omega, hxx] at HC
    rw [hxx]
    simp [Array.zip, go_sem]
    gi_wp2_with (refine ⟨trivial, ?_⟩; gi_at_call 29; refine (CallsIn.inRound l (callsIn_wide.2 HC.out)).mono ?_; rintro e w' ⟨⟨u, rfl⟩, h1, h2⟩)
    exact ⟨h2.keepsFrom (by omega), HI.out.next x h1 h2⟩
  case done =>
    rintro D xs W hD rfl hi hK
    have HI := Lib.hid hi
    clear hi
    gi_wp2
    refine ⟨by simp, .inl ⟨_, _, rfl, run_takeDeferred hK, ?_⟩⟩
    have hu : Up D W (W.putObj D (.deferred none)) := ⟨rfl, rfl, rfl, by simp [World.putObj], fun k hk hn => World.putObj_heap_other hn⟩
    refine ⟨.int .i64 0, by simp [results, Try.f28, go_sem], rfl, HI.out.1.up hu (by omega) (by omega), (Up.of_nw hN0).trans ⟨HI.out.2.os, HI.out.2.tape, HI.out.2.output, by have := HI.out.2.size; simpa [World.putObj] using this, fun k hk hn => (World.putObj_heap_other (by omega)).trans (HI.out.2.block k hk hn)⟩⟩
  case stop =>
    rintro D c pre W _ _ h _
    exact h.elim

set_option maxHeartbeats 1000000 in
theorem flush_0 (d b : Nat) (f : Nat → Wd) (w : World) (h : DevAt w d b f) :
    Calls Try.prog 18 #[.pointer (some ⟨d, 0, none⟩), .int .i64 0] w (DevG w d b (gone (fun _ => flushW) 0 0 (looseL 8 (fun k => (f (0 + k)).loose) 8) f)) := by
  have HC := Lib.hid (line_f_0 d b f w h)
  clear h
  go_enter Try.func18, Try.ntmps18
  go_wp2_with fail
  refine HC.out.mono ?_
  rintro e w' ⟨rfl, h1, h2⟩
  go_wp2_with fail
  go_ret
  exact ⟨rfl, h1, h2⟩

set_option maxRecDepth 100000 in
set_option maxHeartbeats 4000000 in
theorem line_f_1 (d b : Nat) (f : Nat → Wd) (w : World) (h : DevAt w d b f) :
    Calls Try.prog 28 #[.pointer (some ⟨d, 0, none⟩), .int .i64 1, .func (.func 29) #[] #[]] w (DevG w d b (gone (fun _ => flushW) 8 0 (looseL 8 (fun k => (f (8 + k)).loose) 8) f)) := by
  have hs := h.s
  have HD := Lib.hid h
  have hdl := (cell_lt h.s).1
  have hbl := (cell_lt (h.a.c0 0 (by omega))).1
  dsimp only at hdl hbl
  clear h
  refine (callsIn_wide (n := 9)).1 ?_
  refine callsIn_of_wp_marks Try.func28 rfl trivial ?_ rfl
  simp only [Try.ntmps28, List.size_toArray, List.length_cons, List.length_nil, Nat.reduceAdd, Nat.reduceSub, Array.replicate_succ, Array.replicate_zero, List.push_toArray, List.append_toArray, List.nil_append, List.cons_append]
  gi_wp2_with (refine ⟨trivial, ?_⟩; gi_at_call 22; refine (loose_in Fence.wide _ trivial rfl _ _ _ _).mono ?_; rintro e w' ⟨rfl, rfl⟩)
  have hB1 : ((w.alloc (.cells #[.func (.func 29) #[] #[]] 67)).alloc (.cells #[.slice (some ⟨b, 0 + 8 * 6, none⟩) 8 (16 - 8)] 53)).cell? ⟨w.heap.size + 1, 0, none⟩ = some (.slice (some ⟨b, 8 * 6, none⟩) 8 (16 - 8)) := by
    have := World.cell?_alloc_new (w.alloc (.cells #[.func (.func 29) #[] #[]] 67)) #[.slice (some ⟨b, 0 + 8 * 6, none⟩) 8 (16 - 8)] 53 0
    rw [World.size_alloc] at this
    rw [this]; simp
  have hB0 : ((w.alloc (.cells #[.func (.func 29) #[] #[]] 67)).alloc (.cells #[.slice (some ⟨b, 0 + 8 * 6, none⟩) 8 (16 - 8)] 53)).cell? ⟨w.heap.size, 0, none⟩ = some (.func (.func 29) #[] #[]) := by
    have := World.cell?_alloc_new w #[.func (.func 29) #[] #[]] 67 0
    refine ((Nw.refl.alloc _ : Nw (w.alloc (.cells #[.func (.func 29) #[] #[]] 67)) _).b.cell (p := ⟨w.heap.size, 0, none⟩) (by simp)).trans ?_
    rw [this]; rfl
  have hN0 : Nw w ((w.alloc (.cells #[.func (.func 29) #[] #[]] 67)).alloc (.cells #[.slice (some ⟨b, 0 + 8 * 6, none⟩) 8 (16 - 8)] 53)) := (Nw.refl.alloc _).alloc _
  have hs0 : ((w.alloc (.cells #[.func (.func 29) #[] #[]] 67)).alloc (.cells #[.slice (some ⟨b, 0 + 8 * 6, none⟩) 8 (16 - 8)] 53)).heap.size = w.heap.size + 2 := by simp
  have hD0 := HD.out.nw hN0
  generalize hW0 : (w.alloc (.cells #[.func (.func 29) #[] #[]] 67)).alloc (.cells #[.slice (some ⟨b, 0 + 8 * 6, none⟩) 8 (16 - 8)] 53) = W0 at *
  refine wpIn_range_K rfl (by omega) (gf := 31) (lb := #[.pointer (some ⟨w.heap.size + 1, 0, none⟩)]) rfl trivial (enters_of Try.func31 (by kernel_rfl) rfl)
    (fun _ => rfl) (GoneI W0 d b (fun _ => flushW) 8 f) (fun _ _ _ => False)
    (loose_stops Fence.wide _ trivial rfl (by omega) (w.heap.size + 1) b 8 8 (16 - 8) (by omega) (fun k => (f (8 + k)).loose) (GoneI W0 d b (fun _ => flushW) 8 f)
      (fun pre W hi => hi.2.cell hB1 (by dsimp only; omega))
      (fun pre W k hk hi hp => by
        have := hi.1.a.c2 (8 + k) (by omega)
        rw [gone_other _ _ _ _ (fun x hx => by have := hp x hx; omega)] at this
        rw [← this]; congr 2; omega) W0)
    (goneI_own W0 d b _ _ f (by omega) (by omega)) (fun _ _ _ _ _ hs _ _ => hs) ⟨hD0, .refl _ _⟩
    (fun x t => t.setIfInBounds 7 (.pointer (some ⟨b, 8 * 6 + x.1 * 6, none⟩)))
    ?assign ?body ?done ?stop
  case assign =>
    rintro l pre x W K hi hK
    obtain ⟨xx, hxx⟩ : ∃ xx, 8 * 6 + x.1 * 6 = xx := ⟨_, rfl⟩
    unfold wE at hK ⊢
    rw [hxx] at hK ⊢
    simp [Array.zip, go_sem] at hK ⊢
    gi_wp2
    exact hK
  case body =>
    rintro l pre x W hl _ hi _
    have hc := hi.2.cell hB0 (by dsimp only; omega)
    have HI := Lib.hid hi
    have HC := Lib.hid (flush1_any b 16 _ (8 + x.1) (by omega) W hi.1.a)
    clear hi
    unfold wE
    obtain ⟨xx, hxx⟩ : ∃ xx, 8 * 6 + x.1 * 6 = xx := ⟨_, rfl⟩
    rw [show (8 + x.1) * 6 = 8 * 6 + x.1 * 6 by omega, hxx] at HC
    rw [hxx]
    simp [Array.zip, go_sem]
    gi_wp2_with (refine ⟨trivial, ?_⟩; gi_at_call 29; refine (CallsIn.inRound l (callsIn_wide.2 HC.out)).mono ?_; rintro e w' ⟨⟨u, rfl⟩, h1, h2⟩)
    exact ⟨h2.keepsFrom (by omega), HI.out.next x h1 h2⟩
  case done =>
    rintro D xs W hD rfl hi hK
    have HI := Lib.hid hi
    clear hi
    gi_wp2
    refine ⟨by simp, .inl ⟨_, _, rfl, run_takeDeferred hK, ?_⟩⟩
    have hu : Up D W (W.putObj D (.deferred none)) := ⟨rfl, rfl, rfl, by simp [World.putObj], fun k hk hn => World.putObj_heap_other hn⟩
    refine ⟨.int .i64 0, by simp [results, Try.f28, go_sem], rfl, HI.out.1.up hu (by omega) (by omega), (Up.of_nw hN0).trans ⟨HI.out.2.os, HI.out.2.tape, HI.out.2.output, by have := HI.out.2.size; simpa [World.putObj] using this, fun k hk hn => (World.putObj_heap_other (by omega)).trans (HI.out.2.block k hk hn)⟩⟩
  case stop =>
    rintro D c pre W _ _ h _
    exact h.elim

set_option maxHeartbeats 1000000 in
theorem flush_1 (d b : Nat) (f : Nat → Wd) (w : World) (h : DevAt w d b f) :
    Calls Try.prog 18 #[.pointer (some ⟨d, 0, none⟩), .int .i64 1] w (DevG w d b (gone (fun _ => flushW) 8 0 (looseL 8 (fun k => (f (8 + k)).loose) 8) f)) := by
  have HC := Lib.hid (line_f_1 d b f w h)
  clear h
  go_enter Try.func18, Try.ntmps18
  go_wp2_with fail
  refine HC.out.mono ?_
  rintro e w' ⟨rfl, h1, h2⟩
  go_wp2_with fail
  go_ret
  exact ⟨rfl, h1, h2⟩

set_option maxRecDepth 100000 in
set_option maxHeartbeats 4000000 in
theorem line_e_0 (d b : Nat) (f : Nat → Wd) (w : World) (h : DevAt w d b f) :
    Calls Try.prog 28 #[.pointer (some ⟨d, 0, none⟩), .int .i64 0, .func (.func 30) #[] #[]] w (DevG w d b (gone (fun _ => evictW) 0 0 (looseL 8 (fun k => (f (0 + k)).loose) 8) f)) := by
  have hs := h.s
  have HD := Lib.hid h
  have hdl := (cell_lt h.s).1
  have hbl := (cell_lt (h.a.c0 0 (by omega))).1
  dsimp only at hdl hbl
  clear h
  refine (callsIn_wide (n := 9)).1 ?_
  refine callsIn_of_wp_marks Try.func28 rfl trivial ?_ rfl
  simp only [Try.ntmps28, List.size_toArray, List.length_cons, List.length_nil, Nat.reduceAdd, Nat.reduceSub, Array.replicate_succ, Array.replicate_zero, List.push_toArray, List.append_toArray, List.nil_append, List.cons_append]
  gi_wp2_with (refine ⟨trivial, ?_⟩; gi_at_call 22; refine (loose_in Fence.wide _ trivial rfl _ _ _ _).mono ?_; rintro e w' ⟨rfl, rfl⟩)
  have hB1 : ((w.alloc (.cells #[.func (.func 30) #[] #[]] 67)).alloc (.cells #[.slice (some ⟨b, 0 + 0 * 6, none⟩) 8 (16 - 0)] 53)).cell? ⟨w.heap.size + 1, 0, none⟩ = some (.slice (some ⟨b, 0 * 6, none⟩) 8 (16 - 0)) := by
    have := World.cell?_alloc_new (w.alloc (.cells #[.func (.func 30) #[] #[]] 67)) #[.slice (some ⟨b, 0 + 0 * 6, none⟩) 8 (16 - 0)] 53 0
    rw [World.size_alloc] at this
    rw [this]; simp
  have hB0 : ((w.alloc (.cells #[.func (.func 30) #[] #[]] 67)).alloc (.cells #[.slice (some ⟨b, 0 + 0 * 6, none⟩) 8 (16 - 0)] 53)).cell? ⟨w.heap.size, 0, none⟩ = some (.func (.func 30) #[] #[]) := by
    have := World.cell?_alloc_new w #[.func (.func 30) #[] #[]] 67 0
    refine ((Nw.refl.alloc _ : Nw (w.alloc (.cells #[.func (.func 30) #[] #[]] 67)) _).b.cell (p := ⟨w.heap.size, 0, none⟩) (by simp)).trans ?_
    rw [this]; rfl
  have hN0 : Nw w ((w.alloc (.cells #[.func (.func 30) #[] #[]] 67)).alloc (.cells #[.slice (some ⟨b, 0 + 0 * 6, none⟩) 8 (16 - 0)] 53)) := (Nw.refl.alloc _).alloc _
  have hs0 : ((w.alloc (.cells #[.func (.func 30) #[] #[]] 67)).alloc (.cells #[.slice (some ⟨b, 0 + 0 * 6, none⟩) 8 (16 - 0)] 53)).heap.size = w.heap.size + 2 := by simp
  have hD0 := HD.out.nw hN0
  generalize hW0 : (w.alloc (.cells #[.func (.func 30) #[] #[]] 67)).alloc (.cells #[.slice (some ⟨b, 0 + 0 * 6, none⟩) 8 (16 - 0)] 53) = W0 at *
  refine wpIn_range_K rfl (by omega) (gf := 31) (lb := #[.pointer (some ⟨w.heap.size + 1, 0, none⟩)]) rfl trivial (enters_of Try.func31 (by kernel_rfl) rfl)
    (fun _ => rfl) (GoneI W0 d b (fun _ => evictW) 0 f) (fun _ _ _ => False)
    (loose_stops Fence.wide _ trivial rfl (by omega) (w.heap.size + 1) b 0 8 (16 - 0) (by omega) (fun k => (f (0 + k)).loose) (GoneI W0 d b (fun _ => evictW) 0 f)
      (fun pre W hi => hi.2.cell hB1 (by dsimp only; omega))
      (fun pre W k hk hi hp => by
        have := hi.1.a.c2 (0 + k) (by omega)
        rw [gone_other _ _ _ _ (fun x hx => by have := hp x hx; omega)] at this
        rw [← this]; congr 2; omega) W0)
    (goneI_own W0 d b _ _ f (by omega) (by omega)) (fun _ _ _ _ _ hs _ _ => hs) ⟨hD0, .refl _ _⟩
    (fun x t => t.setIfInBounds 7 (.pointer (some ⟨b, 0 * 6 + x.1 * 6, none⟩)))
    ?assign ?body ?done ?stop
  case assign =>
    rintro l pre x W K hi hK
    obtain ⟨xx, hxx⟩ : ∃ xx, 0 * 6 + x.1 * 6 = xx := ⟨_, rfl⟩
    unfold wE at hK ⊢
    rw [hxx] at hK ⊢
    simp [Array.zip, go_sem] at hK ⊢
    gi_wp2
    exact hK
  case body =>
    rintro l pre x W hl _ hi _
    have hc := hi.2.cell hB0 (by dsimp only; omega)
    have HI := Lib.hid hi
    have HC := Lib.hid (evict1_any b 16 _ (0 + x.1) (by omega) W hi.1.a)
    clear hi
    unfold wE
    obtain ⟨xx, hxx⟩ : ∃ xx, 0 * 6 + x.1 * 6 = xx := ⟨_, rfl⟩
    rw [show (0 + x.1) * 6 = 0 * 6 + x.1 * 6 by omega, hxx] at HC
    rw [hxx]
    simp [Array.zip, go_sem]
    gi_wp2_with (refine ⟨trivial, ?_⟩; gi_at_call 30; refine (CallsIn.inRound l (callsIn_wide.2 HC.out)).mono ?_; rintro e w' ⟨⟨u, rfl⟩, h1, h2⟩)
    exact ⟨h2.keepsFrom (by omega), HI.out.next x h1 h2⟩
  case done =>
    rintro D xs W hD rfl hi hK
    have HI := Lib.hid hi
    clear hi
    gi_wp2
    refine ⟨by simp, .inl ⟨_, _, rfl, run_takeDeferred hK, ?_⟩⟩
    have hu : Up D W (W.putObj D (.deferred none)) := ⟨rfl, rfl, rfl, by simp [World.putObj], fun k hk hn => World.putObj_heap_other hn⟩
    refine ⟨.int .i64 0, by simp [results, Try.f28, go_sem], rfl, HI.out.1.up hu (by omega) (by omega), (Up.of_nw hN0).trans ⟨HI.out.2.os, HI.out.2.tape, HI.out.2.output, by have := HI.out.2.size; simpa [World.putObj] using this, fun k hk hn => (World.putObj_heap_other (by omega)).trans (HI.out.2.block k hk hn)⟩⟩
  case stop =>
    rintro D c pre W _ _ h _
    exact h.elim

set_option maxHeartbeats 1000000 in
theorem evict_0 (d b : Nat) (f : Nat → Wd) (w : World) (h : DevAt w d b f) :
    Calls Try.prog 19 #[.pointer (some ⟨d, 0, none⟩), .int .i64 0] w (DevG w d b (gone (fun _ => evictW) 0 0 (looseL 8 (fun k => (f (0 + k)).loose) 8) f)) := by
  have HC := Lib.hid (line_e_0 d b f w h)
  clear h
  go_enter Try.func19, Try.ntmps19
  go_wp2_with fail
  refine HC.out.mono ?_
  rintro e w' ⟨rfl, h1, h2⟩
  go_wp2_with fail
  go_ret
  exact ⟨rfl, h1, h2⟩

set_option maxRecDepth 100000 in
set_option maxHeartbeats 4000000 in
theorem line_e_1 (d b : Nat) (f : Nat → Wd) (w : World) (h : DevAt w d b f) :
    Calls Try.prog 28 #[.pointer (some ⟨d, 0, none⟩), .int .i64 1, .func (.func 30) #[] #[]] w (DevG w d b (gone (fun _ => evictW) 8 0 (looseL 8 (fun k => (f (8 + k)).loose) 8) f)) := by
  have hs := h.s
  have HD := Lib.hid h
  have hdl := (cell_lt h.s).1
  have hbl := (cell_lt (h.a.c0 0 (by omega))).1
  dsimp only at hdl hbl
  clear h
  refine (callsIn_wide (n := 9)).1 ?_
  refine callsIn_of_wp_marks Try.func28 rfl trivial ?_ rfl
  simp only [Try.ntmps28, List.size_toArray, List.length_cons, List.length_nil, Nat.reduceAdd, Nat.reduceSub, Array.replicate_succ, Array.replicate_zero, List.push_toArray, List.append_toArray, List.nil_append, List.cons_append]
  gi_wp2_with (refine ⟨trivial, ?_⟩; gi_at_call 22; refine (loose_in Fence.wide _ trivial rfl _ _ _ _).mono ?_; rintro e w' ⟨rfl, rfl⟩)
  have hB1 : ((w.alloc (.cells #[.func (.func 30) #[] #[]] 67)).alloc (.cells #[.slice (some ⟨b, 0 + 8 * 6, none⟩) 8 (16 - 8)] 53)).cell? ⟨w.heap.size + 1, 0, none⟩ = some (.slice (some ⟨b, 8 * 6, none⟩) 8 (16 - 8)) := by
    have := World.cell?_alloc_new (w.alloc (.cells #[.func (.func 30) #[] #[]] 67)) #[.slice (some ⟨b, 0 + 8 * 6, none⟩) 8 (16 - 8)] 53 0
    rw [World.size_alloc] at this
    rw [this]; simp
  have hB0 : ((w.alloc (.cells #[.func (.func 30) #[] #[]] 67)).alloc (.cells #[.slice (some ⟨b, 0 + 8 * 6, none⟩) 8 (16 - 8)] 53)).cell? ⟨w.heap.size, 0, none⟩ = some (.func (.func 30) #[] #[]) := by
    have := World.cell?_alloc_new w #[.func (.func 30) #[] #[]] 67 0
    refine ((Nw.refl.alloc _ : Nw (w.alloc (.cells #[.func (.func 30) #[] #[]] 67)) _).b.cell (p := ⟨w.heap.size, 0, none⟩) (by simp)).trans ?_
    rw [this]; rfl
  have hN0 : Nw w ((w.alloc (.cells #[.func (.func 30) #[] #[]] 67)).alloc (.cells #[.slice (some ⟨b, 0 + 8 * 6, none⟩) 8 (16 - 8)] 53)) := (Nw.refl.alloc _).alloc _
  have hs0 : ((w.alloc (.cells #[.func (.func 30) #[] #[]] 67)).alloc (.cells #[.slice (some ⟨b, 0 + 8 * 6, none⟩) 8 (16 - 8)] 53)).heap.size = w.heap.size + 2 := by simp
  have hD0 := HD.out.nw hN0
  generalize hW0 : (w.alloc (.cells #[.func (.func 30) #[] #[]] 67)).alloc (.cells #[.slice (some ⟨b, 0 + 8 * 6, none⟩) 8 (16 - 8)] 53) = W0 at *
  refine wpIn_range_K rfl (by omega) (gf := 31) (lb := #[.pointer (some ⟨w.heap.size + 1, 0, none⟩)]) rfl trivial (enters_of Try.func31 (by kernel_rfl) rfl)
    (fun _ => rfl) (GoneI W0 d b (fun _ => evictW) 8 f) (fun _ _ _ => False)
    (loose_stops Fence.wide _ trivial rfl (by omega) (w.heap.size + 1) b 8 8 (16 - 8) (by omega) (fun k => (f (8 + k)).loose) (GoneI W0 d b (fun _ => evictW) 8 f)
      (fun pre W hi => hi.2.cell hB1 (by dsimp only; omega))
      (fun pre W k hk hi hp => by
        have := hi.1.a.c2 (8 + k) (by omega)
        rw [gone_other _ _ _ _ (fun x hx => by have := hp x hx; omega)] at this
        rw [← this]; congr 2; omega) W0)
    (goneI_own W0 d b _ _ f (by omega) (by omega)) (fun _ _ _ _ _ hs _ _ => hs) ⟨hD0, .refl _ _⟩
    (fun x t => t.setIfInBounds 7 (.pointer (some ⟨b, 8 * 6 + x.1 * 6, none⟩)))
    ?assign ?body ?done ?stop
  case assign =>
    rintro l pre x W K hi hK
    obtain ⟨xx, hxx⟩ : ∃ xx, 8 * 6 + x.1 * 6 = xx := ⟨_, rfl⟩
    unfold wE at hK ⊢
    rw [hxx] at hK ⊢
    simp [Array.zip, go_sem] at hK ⊢
    gi_wp2
    exact hK
  case body =>
    rintro l pre x W hl _ hi _
    have hc := hi.2.cell hB0 (by dsimp only; omega)
    have HI := Lib.hid hi
    have HC := Lib.hid (evict1_any b 16 _ (8 + x.1) (by omega) W hi.1.a)
    clear hi
    unfold wE
    obtain ⟨xx, hxx⟩ : ∃ xx, 8 * 6 + x.1 * 6 = xx := ⟨_, rfl⟩
    rw [show (8 + x.1) * 6 = 8 * 6 + x.1 * 6 by omega, hxx] at HC
    rw [hxx]
    simp [Array.zip, go_sem]
    gi_wp2_with (refine ⟨trivial, ?_⟩; gi_at_call 30; refine (CallsIn.inRound l (callsIn_wide.2 HC.out)).mono ?_; rintro e w' ⟨⟨u, rfl⟩, h1, h2⟩)
    exact ⟨h2.keepsFrom (by omega), HI.out.next x h1 h2⟩
  case done =>
    rintro D xs W hD rfl hi hK
    have HI := Lib.hid hi
    clear hi
    gi_wp2
    refine ⟨by simp, .inl ⟨_, _, rfl, run_takeDeferred hK, ?_⟩⟩
    have hu : Up D W (W.putObj D (.deferred none)) := ⟨rfl, rfl, rfl, by simp [World.putObj], fun k hk hn => World.putObj_heap_other hn⟩
    refine ⟨.int .i64 0, by simp [results, Try.f28, go_sem], rfl, HI.out.1.up hu (by omega) (by omega), (Up.of_nw hN0).trans ⟨HI.out.2.os, HI.out.2.tape, HI.out.2.output, by have := HI.out.2.size; simpa [World.putObj] using this, fun k hk hn => (World.putObj_heap_other (by omega)).trans (HI.out.2.block k hk hn)⟩⟩
  case stop =>
    rintro D c pre W _ _ h _
    exact h.elim

set_option maxHeartbeats 1000000 in
theorem evict_1 (d b : Nat) (f : Nat → Wd) (w : World) (h : DevAt w d b f) :
    Calls Try.prog 19 #[.pointer (some ⟨d, 0, none⟩), .int .i64 1] w (DevG w d b (gone (fun _ => evictW) 8 0 (looseL 8 (fun k => (f (8 + k)).loose) 8) f)) := by
  have HC := Lib.hid (line_e_1 d b f w h)
  clear h
  go_enter Try.func19, Try.ntmps19
  go_wp2_with fail
  refine HC.out.mono ?_
  rintro e w' ⟨rfl, h1, h2⟩
  go_wp2_with fail
  go_ret
  exact ⟨rfl, h1, h2⟩

end Go.Proofs.Ytfjobldfdakfpaa
