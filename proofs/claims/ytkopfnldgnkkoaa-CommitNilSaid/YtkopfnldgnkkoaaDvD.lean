/-
  DEVICES OF N WORDS: what is done with the loose words of a line; Flush, Evict.
-/
import Derived.Test.YtkopfnldgnkkoaaDvC
namespace Go.Proofs.Ytkopfnldgnkkoaa
open Go.RowKit Go.Shelf
set_option linter.unusedVariables false
attribute [local go_sem] Oper.semAt_some

/-- Words, gone through in turn. -/
def gone (op : Nat → Wd → Wd) (o : Nat) {m : Nat} : Nat → List (Fin m) → (Nat → Wd) → Nat → Wd
  | _, [], f => f
  | i, x :: r, f => gone op o (i + 1) r (upd f (o + x.1) (op i (f (o + x.1))))
theorem gone_snoc (op : Nat → Wd → Wd) (o : Nat) {m : Nat} (pre : List (Fin m)) (x : Fin m) : ∀ (i : Nat) (f : Nat → Wd), gone op o i (pre ++ [x]) f = upd (gone op o i pre f) (o + x.1) (op (i + pre.length) (gone op o i pre f (o + x.1))) := by
  induction pre with
  | nil => intro i f; rfl
  | cons y r ih => intro i f; simp only [List.cons_append, gone, List.length_cons]; rw [ih, show i + 1 + r.length = i + (r.length + 1) by omega]
theorem gone_other (op : Nat → Wd → Wd) (o : Nat) {m : Nat} (pre : List (Fin m)) (k : Nat) (h : ∀ x ∈ pre, o + x.1 ≠ k) : ∀ (i : Nat) (f : Nat → Wd), gone op o i pre f k = f k := by
  induction pre with
  | nil => intro i f; rfl
  | cons y r ih =>
    intro i f
    simp only [gone]
    rw [ih (fun x hx => h x (List.mem_cons_of_mem _ hx)), upd, if_neg (fun e => h y List.mem_cons_self e.symm)]
/-- What is kept while words are gone through. -/
def GoneI (W0 : World) (d b N : Nat) (op : Nat → Wd → Wd) (o : Nat) (f : Nat → Wd) {m : Nat} (pre : List (Fin m)) (W : World) : Prop :=
  DevAt W d b N (gone op o 0 pre f) ∧ Up b W0 W
theorem goneI_own (W0 : World) (d b N : Nat) (op : Nat → Wd → Wd) (o : Nat) (f : Nat → Wd) {m : Nat} (hd : d < W0.heap.size) (hb : b < W0.heap.size) : OwnFrom W0.heap.size (GoneI W0 d b N op o f (m := m)) := by
  rintro pre W W' row ⟨h1, h2⟩ hg hr
  have hf := row_far h2.size hr
  refine ⟨h1.up (up_of_grown hg) (by omega) (by omega), ?_⟩
  exact ⟨hg.os.trans h2.os, hg.tape.trans h2.tape, hg.output.trans h2.output, Nat.le_trans h2.size hg.size, fun k hk hn => ((up_of_grown hg).block k (by have := h2.size; omega) (by omega)).trans (h2.block k hk hn)⟩
theorem GoneI.next {W0 W W' : World} {d b N : Nat} {op : Nat → Wd → Wd} {o : Nat} {f : Nat → Wd} {m : Nat} {pre : List (Fin m)} (h : GoneI W0 d b N op o f pre W) (x : Fin m) (hx : WAt W' b N (upd (gone op o 0 pre f) (o + x.1) (op pre.length (gone op o 0 pre f (o + x.1))))) (hu : Up b W W') : GoneI W0 d b N op o f (pre ++ [x]) W' := by
  refine ⟨?_, h.2.trans hu⟩
  rw [gone_snoc, Nat.zero_add]
  exact ⟨h.1.k.up hu h.1.ne, hx, h.1.pos, h.1.le, h.1.by8⟩
/-- A device from one moment to the next. -/
def DevG (w : World) (d b N : Nat) (g : Nat → Wd) (e : Ending) (w' : World) : Prop := e = .returned (.int .i64 0) ∧ DevAt w' d b N g ∧ Up b w w'
theorem WAt.congr {W : World} {b n : Nat} {f g : Nat → Wd} (h : WAt W b n f) (e : ∀ i, i < n → f i = g i) : WAt W b n g :=
  ⟨fun i hi => by rw [← e i hi]; exact h.c0 i hi, fun i hi => by rw [← e i hi]; exact h.c1 i hi, fun i hi => by rw [← e i hi]; exact h.c2 i hi, fun i hi => by rw [← e i hi]; exact h.c3 i hi, fun i hi => by rw [← e i hi]; exact h.c4 i hi, fun i hi => by rw [← e i hi]; exact h.c5 i hi, h.ty⟩
theorem DevAt.congr {W : World} {d b N : Nat} {f g : Nat → Wd} (h : DevAt W d b N f) (e : ∀ i, i < N → f i = g i) : DevAt W d b N g := ⟨h.k, h.a.congr e, h.pos, h.le, h.by8⟩
theorem DevG.congr {w w' : World} {d b N : Nat} {f g : Nat → Wd} {e : Ending} (h : DevG w d b N f e w') (k : ∀ i, i < N → f i = g i) : DevG w d b N g e w' := ⟨h.1, h.2.1.congr k, h.2.2⟩
theorem gone_const (op : Nat → Wd → Wd) (op' : Wd → Wd) (o : Nat) {m : Nat} (pre : List (Fin m)) (hnd : pre.Nodup) : ∀ (i : Nat) (f : Nat → Wd), (∀ j, j < i + pre.length → ∀ x, op j x = op' x) → ∀ k, ((∃ x ∈ pre, o + x.1 = k) → gone op o i pre f k = op' (f k)) ∧ ((¬ ∃ x ∈ pre, o + x.1 = k) → gone op o i pre f k = f k) := by
  induction pre with
  | nil => intro i f _ k; exact ⟨fun ⟨x, hx, _⟩ => absurd hx (by simp), fun _ => rfl⟩
  | cons y r ih =>
    intro i f hop k
    obtain ⟨hy, hr⟩ := List.nodup_cons.1 hnd
    have key := ih hr (i + 1) (upd f (o + y.1) (op i (f (o + y.1)))) (fun j hj => hop j (by simp only [List.length_cons]; omega)) k
    simp only [gone]
    by_cases hk : o + y.1 = k
    · subst hk
      have hn : ¬ ∃ x ∈ r, o + x.1 = o + y.1 := fun ⟨x, hx, e⟩ => hy (by rw [show y = x from Fin.ext (by omega)]; exact hx)
      refine ⟨fun _ => ?_, fun h => absurd ⟨y, List.mem_cons_self, rfl⟩ h⟩
      rw [key.2 hn, upd_same]
      exact hop i (by simp only [List.length_cons]; omega) _
    · have hu : upd f (o + y.1) (op i (f (o + y.1))) k = f k := by unfold upd; rw [if_neg (fun e => hk e.symm)]
      rw [hu] at key
      refine ⟨fun ⟨x, hx, e⟩ => ?_, fun h => key.2 (fun ⟨x, hx, e⟩ => h ⟨x, List.mem_cons_of_mem _ hx, e⟩)⟩
      rcases List.mem_cons.1 hx with rfl | hx
      · exact absurd e hk
      · exact key.1 ⟨x, hx, e⟩
theorem gone_loose (op : Nat → Wd → Wd) (op' : Wd → Wd) (o m : Nat) (f : Nat → Wd) (hop : ∀ j, j < m → ∀ x, op j x = op' x) (k : Nat) :
    gone op o 0 (looseL m (fun i => (f (o + i)).loose) m) f k = if o ≤ k ∧ k < o + m ∧ (f k).loose = true then op' (f k) else f k := by
  have key := gone_const op op' o (looseL m (fun i => (f (o + i)).loose) m) (looseL_nodup _ _ _) 0 f (fun j hj => hop j (by have := looseL_length (m := m) (fl := fun i => (f (o + i)).loose) (k := m); omega)) k
  by_cases h : o ≤ k ∧ k < o + m ∧ (f k).loose = true
  · rw [if_pos h]
    obtain ⟨h1, h2, h3⟩ := h
    exact key.1 ⟨⟨k - o, by omega⟩, (looseL_mem (fl := fun i => (f (o + i)).loose) _).2 (by show (f (o + (k - o))).loose = true; rw [show o + (k - o) = k by omega]; exact h3), by show o + (k - o) = k; omega⟩
  · rw [if_neg h]
    refine key.2 (fun ⟨x, hx, e⟩ => h ?_)
    have := (looseL_mem (fl := fun i => (f (o + i)).loose) x).1 hx
    subst e
    exact ⟨by omega, by have := x.2; omega, this⟩
/-- What is done with a line's loose words. -/
def lineU (i : Nat) (op : Wd → Wd) (f : Nat → Wd) : Nat → Wd := fun k => if k / 8 = i ∧ (f k).loose = true then op (f k) else f k
def flushU (i : Nat) (f : Nat → Wd) : Nat → Wd := lineU i flushW f
def evictU (i : Nat) (f : Nat → Wd) : Nat → Wd := lineU i evictW f
theorem gone_line (i : Nat) (op : Wd → Wd) (f : Nat → Wd) (k : Nat) : gone (fun _ => op) (i * 8) 0 (looseL 8 (fun k => (f (i * 8 + k)).loose) 8) f k = lineU i op f k := by
  rw [gone_loose (fun _ => op) op (i * 8) 8 f (fun _ _ _ => rfl) k]
  unfold lineU
  by_cases h : (f k).loose = true
  · by_cases h2 : k / 8 = i
    · rw [if_pos ⟨by omega, by omega, h⟩, if_pos ⟨h2, h⟩]
    · rw [if_neg (fun hh => h2 (by omega)), if_neg (fun hh => h2 hh.1)]
  · rw [if_neg (fun hh => h hh.2.2), if_neg (fun hh => h hh.2)]

set_option maxRecDepth 100000 in
set_option maxHeartbeats 4000000 in
theorem line_flush (d b N : Nat) (f : Nat → Wd) (i : Nat) (hi : i * 8 < N) (w : World) (h : DevAt w d b N f) :
    Calls Try.prog 63 #[.pointer (some ⟨d, 0, none⟩), .int .i64 (i : Int), .func (.func 99) #[] #[]] w (DevG w d b N (gone (fun _ => flushW) (i * 8) 0 (looseL 8 (fun k => (f (i * 8 + k)).loose) 8) f)) := by
  have hs := h.s
  have hN8 := h.by8
  have hle := h.le
  have HD := Lib.hid h
  have hdl := h.dlt
  have hbl := h.blt
  have hi1 : (i + 1) * 8 ≤ N := by omega
  have hi2 : i < N / 8 := by omega
  have hi3 : ((i + 1) * 8) - i * 8 = 8 := by omega
  clear h
  refine (callsIn_wide (n := 9)).1 ?_
  refine callsIn_of_wp_marks Try.func63 rfl trivial ?_ rfl
  simp only [Try.ntmps63, List.size_toArray, List.length_cons, List.length_nil, Nat.reduceAdd, Nat.reduceSub, Array.replicate_succ, Array.replicate_zero, List.push_toArray, List.append_toArray, List.nil_append, List.cons_append]
  gi_wp2_with (refine ⟨trivial, ?_⟩; gi_at_call 61; refine (loose_in Fence.wide _ trivial rfl _ _ _ _).mono ?_; rintro e w' ⟨rfl, rfl⟩)
  have hB1 : ((w.alloc (.cells #[.func (.func 99) #[] #[]] 128)).alloc (.cells #[.slice (some ⟨b, i * 8 * 6, none⟩) 8 (N - i * 8)] 115)).cell? ⟨w.heap.size + 1, 0, none⟩ = some (.slice (some ⟨b, i * 8 * 6, none⟩) 8 (N - i * 8)) := by
    have := World.cell?_alloc_new (w.alloc (.cells #[.func (.func 99) #[] #[]] 128)) #[.slice (some ⟨b, i * 8 * 6, none⟩) 8 (N - i * 8)] 115 0
    rw [World.size_alloc] at this
    rw [this]; simp
  have hB0 : ((w.alloc (.cells #[.func (.func 99) #[] #[]] 128)).alloc (.cells #[.slice (some ⟨b, i * 8 * 6, none⟩) 8 (N - i * 8)] 115)).cell? ⟨w.heap.size, 0, none⟩ = some (.func (.func 99) #[] #[]) := by
    have := World.cell?_alloc_new w #[.func (.func 99) #[] #[]] 128 0
    refine ((Nw.refl.alloc _ : Nw (w.alloc (.cells #[.func (.func 99) #[] #[]] 128)) _).b.cell (p := ⟨w.heap.size, 0, none⟩) (by simp)).trans ?_
    rw [this]; rfl
  have hN0 : Nw w ((w.alloc (.cells #[.func (.func 99) #[] #[]] 128)).alloc (.cells #[.slice (some ⟨b, i * 8 * 6, none⟩) 8 (N - i * 8)] 115)) := (Nw.refl.alloc _).alloc _
  have hs0 : ((w.alloc (.cells #[.func (.func 99) #[] #[]] 128)).alloc (.cells #[.slice (some ⟨b, i * 8 * 6, none⟩) 8 (N - i * 8)] 115)).heap.size = w.heap.size + 2 := by simp
  have hD0 := HD.out.nw hN0
  generalize hW0 : (w.alloc (.cells #[.func (.func 99) #[] #[]] 128)).alloc (.cells #[.slice (some ⟨b, i * 8 * 6, none⟩) 8 (N - i * 8)] 115) = W0 at *
  refine wpIn_range_K rfl (by omega) (gf := 81) (lb := #[.pointer (some ⟨w.heap.size + 1, 0, none⟩)]) rfl trivial (enters_of Try.func81 (by kernel_rfl) rfl)
    (fun _ => rfl) (GoneI W0 d b N (fun _ => flushW) (i * 8) f) (fun _ _ _ => False)
    (loose_stops Fence.wide _ trivial rfl (by omega) (w.heap.size + 1) b (i * 8) 8 (N - i * 8) (by omega) (fun k => (f (i * 8 + k)).loose) (GoneI W0 d b N (fun _ => flushW) (i * 8) f)
      (fun pre W hi => hi.2.cell hB1 (by dsimp only; omega))
      (fun pre W k hk hi hp => by
        have := hi.1.a.c2 (i * 8 + k) (by omega)
        rw [gone_other _ _ _ _ (fun x hx => by have := hp x hx; omega)] at this
        rw [← this]; congr 2; omega) W0)
    (goneI_own W0 d b N _ _ f (by omega) (by omega)) (fun _ _ _ _ _ hs _ _ => hs) ⟨hD0, .refl _ _⟩
    (fun x t => t.setIfInBounds 7 (.pointer (some ⟨b, i * 8 * 6 + x.1 * 6, none⟩)))
    ?assign ?body ?done ?stop
  case assign =>
    rintro l pre x W K hi hK
    obtain ⟨xx, hxx⟩ : ∃ xx, i * 8 * 6 + x.1 * 6 = xx := ⟨_, rfl⟩
    unfold wE at hK ⊢
    rw [hxx] at hK ⊢
    simp [Array.zip, go_sem] at hK ⊢
    gi_wp2
    exact hK
  case body =>
    rintro l pre x W hl _ hi _
    have hc := hi.2.cell hB0 (by dsimp only; omega)
    have HI := Lib.hid hi
    have HC := Lib.hid (flush1_any b N _ (i * 8 + x.1) (by have := x.2; omega) W hi.1.a)
    clear hi
    unfold wE
    obtain ⟨xx, hxx⟩ : ∃ xx, i * 8 * 6 + x.1 * 6 = xx := ⟨_, rfl⟩
    rw [show (i * 8 + x.1) * 6 = i * 8 * 6 + x.1 * 6 by omega, hxx] at HC
    rw [hxx]
    simp [Array.zip, go_sem]
    gi_wp2_with (refine ⟨trivial, ?_⟩; gi_at_call 99; refine (CallsIn.inRound l (callsIn_wide.2 HC.out)).mono ?_; rintro e w' ⟨⟨u, rfl⟩, h1, h2⟩)
    exact ⟨h2.keepsFrom (by omega), HI.out.next x h1 h2⟩
  case done =>
    rintro D xs W hD rfl hi hK
    have HI := Lib.hid hi
    clear hi
    gi_wp2
    refine ⟨by simp, .inl ⟨_, _, rfl, run_takeDeferred hK, ?_⟩⟩
    have hu : Up D W (W.putObj D (.deferred none)) := ⟨rfl, rfl, rfl, by simp [World.putObj], fun k hk hn => World.putObj_heap_other hn⟩
    exact ⟨.int .i64 0, by simp [results, Try.f63, go_sem], rfl, HI.out.1.up hu (by omega) (by omega), HI.out.2.putDone hN0 hD⟩
  case stop =>
    rintro D c pre W _ _ h _
    exact h.elim
set_option maxHeartbeats 1000000 in
theorem line_out_flush (d b N : Nat) (f : Nat → Wd) (i : Int) (hi : i < 0 ∨ (N : Int) ≤ i * 8) (w : World) (h : DevAt w d b N f) :
    Calls Try.prog 63 #[.pointer (some ⟨d, 0, none⟩), .int .i64 i, .func (.func 99) #[] #[]] w fun e w' => e = .returned (.int .i64 8) ∧ Nw w w' := by
  have hle := h.le
  have h8 := h.by8
  have hN0 : Nw w (w.alloc (.cells #[.func (.func 99) #[] #[]] 128)) := Nw.refl.alloc _
  have hs := (h.nw hN0).s
  by_cases h0 : i < 0
  · clear h
    go_enter Try.func63, Try.ntmps63
    go_wp2_with fail
    go_ret
    exact ⟨rfl, hN0⟩
  · have hi1 : (N : Int) / 8 ≤ i := by omega
    clear h
    go_enter Try.func63, Try.ntmps63
    go_wp2_with fail
    go_ret
    exact ⟨rfl, hN0⟩
set_option maxHeartbeats 1000000 in
theorem flush_any (d b N : Nat) (f : Nat → Wd) (i : Nat) (hi : i * 8 < N) (w : World) (h : DevAt w d b N f) :
    Calls Try.prog 91 #[.pointer (some ⟨d, 0, none⟩), .int .i64 (i : Int)] w (DevG w d b N (flushU i f)) := by
  have HC := Lib.hid (line_flush d b N f i hi w h)
  clear h hi
  go_enter Try.func91, Try.ntmps91
  go_wp2_with fail
  refine HC.out.mono ?_
  rintro e w' ⟨rfl, h1, h2⟩
  go_wp2_with fail
  go_ret
  exact ⟨rfl, h1.congr (fun k _ => gone_line i _ f k), h2⟩
set_option maxHeartbeats 1000000 in
theorem flush_out (d b N : Nat) (f : Nat → Wd) (i : Int) (hi : i < 0 ∨ (N : Int) ≤ i * 8) (w : World) (h : DevAt w d b N f) :
    Calls Try.prog 91 #[.pointer (some ⟨d, 0, none⟩), .int .i64 i] w fun e w' => e = .returned (.int .i64 8) ∧ Nw w w' := by
  have HC := Lib.hid (line_out_flush d b N f i hi w h)
  clear h hi
  go_enter Try.func91, Try.ntmps91
  go_wp2_with fail
  refine HC.out.mono ?_
  rintro e w' ⟨rfl, h1⟩
  go_wp2_with fail
  go_ret
  exact ⟨rfl, h1⟩

set_option maxRecDepth 100000 in
set_option maxHeartbeats 4000000 in
theorem line_evict (d b N : Nat) (f : Nat → Wd) (i : Nat) (hi : i * 8 < N) (w : World) (h : DevAt w d b N f) :
    Calls Try.prog 63 #[.pointer (some ⟨d, 0, none⟩), .int .i64 (i : Int), .func (.func 64) #[] #[]] w (DevG w d b N (gone (fun _ => evictW) (i * 8) 0 (looseL 8 (fun k => (f (i * 8 + k)).loose) 8) f)) := by
  have hs := h.s
  have hN8 := h.by8
  have hle := h.le
  have HD := Lib.hid h
  have hdl := h.dlt
  have hbl := h.blt
  have hi1 : (i + 1) * 8 ≤ N := by omega
  have hi2 : i < N / 8 := by omega
  have hi3 : ((i + 1) * 8) - i * 8 = 8 := by omega
  clear h
  refine (callsIn_wide (n := 9)).1 ?_
  refine callsIn_of_wp_marks Try.func63 rfl trivial ?_ rfl
  simp only [Try.ntmps63, List.size_toArray, List.length_cons, List.length_nil, Nat.reduceAdd, Nat.reduceSub, Array.replicate_succ, Array.replicate_zero, List.push_toArray, List.append_toArray, List.nil_append, List.cons_append]
  gi_wp2_with (refine ⟨trivial, ?_⟩; gi_at_call 61; refine (loose_in Fence.wide _ trivial rfl _ _ _ _).mono ?_; rintro e w' ⟨rfl, rfl⟩)
  have hB1 : ((w.alloc (.cells #[.func (.func 64) #[] #[]] 128)).alloc (.cells #[.slice (some ⟨b, i * 8 * 6, none⟩) 8 (N - i * 8)] 115)).cell? ⟨w.heap.size + 1, 0, none⟩ = some (.slice (some ⟨b, i * 8 * 6, none⟩) 8 (N - i * 8)) := by
    have := World.cell?_alloc_new (w.alloc (.cells #[.func (.func 64) #[] #[]] 128)) #[.slice (some ⟨b, i * 8 * 6, none⟩) 8 (N - i * 8)] 115 0
    rw [World.size_alloc] at this
    rw [this]; simp
  have hB0 : ((w.alloc (.cells #[.func (.func 64) #[] #[]] 128)).alloc (.cells #[.slice (some ⟨b, i * 8 * 6, none⟩) 8 (N - i * 8)] 115)).cell? ⟨w.heap.size, 0, none⟩ = some (.func (.func 64) #[] #[]) := by
    have := World.cell?_alloc_new w #[.func (.func 64) #[] #[]] 128 0
    refine ((Nw.refl.alloc _ : Nw (w.alloc (.cells #[.func (.func 64) #[] #[]] 128)) _).b.cell (p := ⟨w.heap.size, 0, none⟩) (by simp)).trans ?_
    rw [this]; rfl
  have hN0 : Nw w ((w.alloc (.cells #[.func (.func 64) #[] #[]] 128)).alloc (.cells #[.slice (some ⟨b, i * 8 * 6, none⟩) 8 (N - i * 8)] 115)) := (Nw.refl.alloc _).alloc _
  have hs0 : ((w.alloc (.cells #[.func (.func 64) #[] #[]] 128)).alloc (.cells #[.slice (some ⟨b, i * 8 * 6, none⟩) 8 (N - i * 8)] 115)).heap.size = w.heap.size + 2 := by simp
  have hD0 := HD.out.nw hN0
  generalize hW0 : (w.alloc (.cells #[.func (.func 64) #[] #[]] 128)).alloc (.cells #[.slice (some ⟨b, i * 8 * 6, none⟩) 8 (N - i * 8)] 115) = W0 at *
  refine wpIn_range_K rfl (by omega) (gf := 81) (lb := #[.pointer (some ⟨w.heap.size + 1, 0, none⟩)]) rfl trivial (enters_of Try.func81 (by kernel_rfl) rfl)
    (fun _ => rfl) (GoneI W0 d b N (fun _ => evictW) (i * 8) f) (fun _ _ _ => False)
    (loose_stops Fence.wide _ trivial rfl (by omega) (w.heap.size + 1) b (i * 8) 8 (N - i * 8) (by omega) (fun k => (f (i * 8 + k)).loose) (GoneI W0 d b N (fun _ => evictW) (i * 8) f)
      (fun pre W hi => hi.2.cell hB1 (by dsimp only; omega))
      (fun pre W k hk hi hp => by
        have := hi.1.a.c2 (i * 8 + k) (by omega)
        rw [gone_other _ _ _ _ (fun x hx => by have := hp x hx; omega)] at this
        rw [← this]; congr 2; omega) W0)
    (goneI_own W0 d b N _ _ f (by omega) (by omega)) (fun _ _ _ _ _ hs _ _ => hs) ⟨hD0, .refl _ _⟩
    (fun x t => t.setIfInBounds 7 (.pointer (some ⟨b, i * 8 * 6 + x.1 * 6, none⟩)))
    ?assign ?body ?done ?stop
  case assign =>
    rintro l pre x W K hi hK
    obtain ⟨xx, hxx⟩ : ∃ xx, i * 8 * 6 + x.1 * 6 = xx := ⟨_, rfl⟩
    unfold wE at hK ⊢
    rw [hxx] at hK ⊢
    simp [Array.zip, go_sem] at hK ⊢
    gi_wp2
    exact hK
  case body =>
    rintro l pre x W hl _ hi _
    have hc := hi.2.cell hB0 (by dsimp only; omega)
    have HI := Lib.hid hi
    have HC := Lib.hid (evict1_any b N _ (i * 8 + x.1) (by have := x.2; omega) W hi.1.a)
    clear hi
    unfold wE
    obtain ⟨xx, hxx⟩ : ∃ xx, i * 8 * 6 + x.1 * 6 = xx := ⟨_, rfl⟩
    rw [show (i * 8 + x.1) * 6 = i * 8 * 6 + x.1 * 6 by omega, hxx] at HC
    rw [hxx]
    simp [Array.zip, go_sem]
    gi_wp2_with (refine ⟨trivial, ?_⟩; gi_at_call 64; refine (CallsIn.inRound l (callsIn_wide.2 HC.out)).mono ?_; rintro e w' ⟨⟨u, rfl⟩, h1, h2⟩)
    exact ⟨h2.keepsFrom (by omega), HI.out.next x h1 h2⟩
  case done =>
    rintro D xs W hD rfl hi hK
    have HI := Lib.hid hi
    clear hi
    gi_wp2
    refine ⟨by simp, .inl ⟨_, _, rfl, run_takeDeferred hK, ?_⟩⟩
    have hu : Up D W (W.putObj D (.deferred none)) := ⟨rfl, rfl, rfl, by simp [World.putObj], fun k hk hn => World.putObj_heap_other hn⟩
    exact ⟨.int .i64 0, by simp [results, Try.f63, go_sem], rfl, HI.out.1.up hu (by omega) (by omega), HI.out.2.putDone hN0 hD⟩
  case stop =>
    rintro D c pre W _ _ h _
    exact h.elim
set_option maxHeartbeats 1000000 in
theorem line_out_evict (d b N : Nat) (f : Nat → Wd) (i : Int) (hi : i < 0 ∨ (N : Int) ≤ i * 8) (w : World) (h : DevAt w d b N f) :
    Calls Try.prog 63 #[.pointer (some ⟨d, 0, none⟩), .int .i64 i, .func (.func 64) #[] #[]] w fun e w' => e = .returned (.int .i64 8) ∧ Nw w w' := by
  have hle := h.le
  have h8 := h.by8
  have hN0 : Nw w (w.alloc (.cells #[.func (.func 64) #[] #[]] 128)) := Nw.refl.alloc _
  have hs := (h.nw hN0).s
  by_cases h0 : i < 0
  · clear h
    go_enter Try.func63, Try.ntmps63
    go_wp2_with fail
    go_ret
    exact ⟨rfl, hN0⟩
  · have hi1 : (N : Int) / 8 ≤ i := by omega
    clear h
    go_enter Try.func63, Try.ntmps63
    go_wp2_with fail
    go_ret
    exact ⟨rfl, hN0⟩
set_option maxHeartbeats 1000000 in
theorem evict_any (d b N : Nat) (f : Nat → Wd) (i : Nat) (hi : i * 8 < N) (w : World) (h : DevAt w d b N f) :
    Calls Try.prog 34 #[.pointer (some ⟨d, 0, none⟩), .int .i64 (i : Int)] w (DevG w d b N (evictU i f)) := by
  have HC := Lib.hid (line_evict d b N f i hi w h)
  clear h hi
  go_enter Try.func34, Try.ntmps34
  go_wp2_with fail
  refine HC.out.mono ?_
  rintro e w' ⟨rfl, h1, h2⟩
  go_wp2_with fail
  go_ret
  exact ⟨rfl, h1.congr (fun k _ => gone_line i _ f k), h2⟩
set_option maxHeartbeats 1000000 in
theorem evict_out (d b N : Nat) (f : Nat → Wd) (i : Int) (hi : i < 0 ∨ (N : Int) ≤ i * 8) (w : World) (h : DevAt w d b N f) :
    Calls Try.prog 34 #[.pointer (some ⟨d, 0, none⟩), .int .i64 i] w fun e w' => e = .returned (.int .i64 8) ∧ Nw w w' := by
  have HC := Lib.hid (line_out_evict d b N f i hi w h)
  clear h hi
  go_enter Try.func34, Try.ntmps34
  go_wp2_with fail
  refine HC.out.mono ?_
  rintro e w' ⟨rfl, h1⟩
  go_wp2_with fail
  go_ret
  exact ⟨rfl, h1⟩

end Go.Proofs.Ytkopfnldgnkkoaa
