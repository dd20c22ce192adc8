/-
  PLAIN LAWS: what becomes of words that are gone through.
-/
import Derived.Test.YtfjobldfdakfpaaPmP
namespace Go.Proofs.Ytfjobldfdakfpaa
set_option linter.unusedVariables false

theorem gone_const (op : Nat → Wd → Wd) (op' : Wd → Wd) (o : Nat) {m : Nat} (pre : List (Fin m)) (hnd : pre.Nodup) : ∀ (i : Nat) (f : Nat → Wd), (∀ j, j < i + pre.length → ∀ x, op j x = op' x) → ∀ k, ((∃ x ∈ pre, o + x.1 = k) → gone op o i pre f k = op' (f k)) ∧ ((¬ ∃ x ∈ pre, o + x.1 = k) → gone op o i pre f k = f k) := by
  induction pre with
  | nil => intro i f _ k; exact ⟨fun ⟨x, hx, _⟩ => absurd hx (by simp), fun _ => rfl⟩
  | cons y r ih =>
    intro i f hop k
    obtain ⟨hy, hr⟩ := List.nodup_cons.1 hnd
    have key := ih hr (i + 1) (upd f (o + y.1) (op i (f (o + y.1)))) (fun j hj => hop j (by simp only [List.length_cons]; omega)) k
    simp only [gone]
    by_cases hk : o + y.1 = k
    · subst hk
      have hn : ¬ ∃ x ∈ r, o + x.1 = o + y.1 := fun ⟨x, hx, e⟩ => hy (by rw [show y = x from Fin.ext (by omega)]; exact hx)
      refine ⟨fun _ => ?_, fun h => absurd ⟨y, List.mem_cons_self, rfl⟩ h⟩
      rw [key.2 hn, upd_same]
      exact hop i (by simp only [List.length_cons]; omega) _
    · have hu : upd f (o + y.1) (op i (f (o + y.1))) k = f k := by unfold upd; rw [if_neg (fun e => hk e.symm)]
      rw [hu] at key
      refine ⟨fun ⟨x, hx, e⟩ => ?_, fun h => key.2 (fun ⟨x, hx, e⟩ => h ⟨x, List.mem_cons_of_mem _ hx, e⟩)⟩
      rcases List.mem_cons.1 hx with rfl | hx
      · exact absurd e hk
      · exact key.1 ⟨x, hx, e⟩
theorem gone_loose (op : Nat → Wd → Wd) (op' : Wd → Wd) (o m : Nat) (f : Nat → Wd) (hop : ∀ j, j < m → ∀ x, op j x = op' x) (k : Nat) :
    gone op o 0 (looseL m (fun i => (f (o + i)).loose) m) f k = if o ≤ k ∧ k < o + m ∧ (f k).loose = true then op' (f k) else f k := by
  have key := gone_const op op' o (looseL m (fun i => (f (o + i)).loose) m) (looseL_nodup _ _ _) 0 f (fun j hj => hop j (by have := looseL_length (m := m) (fl := fun i => (f (o + i)).loose) (k := m); omega)) k
  by_cases h : o ≤ k ∧ k < o + m ∧ (f k).loose = true
  · rw [if_pos h]
    obtain ⟨h1, h2, h3⟩ := h
    exact key.1 ⟨⟨k - o, by omega⟩, (looseL_mem (fl := fun i => (f (o + i)).loose) _).2 (by show (f (o + (k - o))).loose = true; rw [show o + (k - o) = k by omega]; exact h3), by show o + (k - o) = k; omega⟩
  · rw [if_neg h]
    refine key.2 (fun ⟨x, hx, e⟩ => h ?_)
    have := (looseL_mem (fl := fun i => (f (o + i)).loose) x).1 hx
    subst e
    exact ⟨by omega, by have := x.2; omega, this⟩
theorem gone_ls (op : Nat → Wd → Wd) (op' : Wd → Wd) (f : Nat → Wd) (hop : ∀ j, j < 16 → ∀ x, op j x = op' x) (k : Nat) (hk : k < 16) : gone op 0 0 (lsL f) f k = if (f k).loose = true then op' (f k) else f k := by
  rw [lsL, gone_loose op op' 0 16 f hop k]
  by_cases h : (f k).loose = true
  · rw [if_pos h, if_pos ⟨by omega, by omega, h⟩]
  · rw [if_neg h, if_neg (fun hh => h hh.2.2)]
theorem flushL_at (i : Nat) (hi : i < 2) (f : Nat → Wd) (k : Nat) (hk : k < 16) : flushL i f k = if k / 8 = i ∧ (f k).loose = true then flushW (f k) else f k := by
  unfold flushL
  obtain rfl | rfl : i = 0 ∨ i = 1 := by omega
  · rw [if_pos rfl, gone_loose (fun _ => flushW) flushW 0 8 f (fun _ _ _ => rfl) k]
    by_cases h : (f k).loose = true
    · by_cases h2 : k / 8 = 0
      · rw [if_pos ⟨by omega, by omega, h⟩, if_pos ⟨h2, h⟩]
      · rw [if_neg (fun hh => h2 (by omega)), if_neg (fun hh => h2 hh.1)]
    · rw [if_neg (fun hh => h hh.2.2), if_neg (fun hh => h hh.2)]
  · rw [if_neg (by omega), gone_loose (fun _ => flushW) flushW 8 8 f (fun _ _ _ => rfl) k]
    by_cases h : (f k).loose = true
    · by_cases h2 : k / 8 = 1
      · rw [if_pos ⟨by omega, by omega, h⟩, if_pos ⟨h2, h⟩]
      · rw [if_neg (fun hh => h2 (by omega)), if_neg (fun hh => h2 hh.1)]
    · rw [if_neg (fun hh => h hh.2.2), if_neg (fun hh => h hh.2)]
/-- A word that is not loose is sure as it is seen, and was not flushed. -/
def Sound (f : Nat → Wd) : Prop := ∀ k, k < 16 → (f k).loose = false → (f k).seen = (f k).sure ∧ (f k).flushed = false
theorem sound_zero : Sound (fun _ => zeroW) := fun _ _ _ => ⟨rfl, rfl⟩
theorem sound_flush {i : Nat} (hi : i < 2) {f : Nat → Wd} (h : Sound f) : Sound (flushL i f) := by
  intro k hk hl
  rw [flushL_at i hi f k hk] at hl ⊢
  split at hl
  · simp [flushW] at hl
  · rename_i hc
    rw [if_neg hc]; exact h k hk hl
theorem sound_store {f : Nat → Wd} (h : Sound f) (j : Nat) (v : Int) : Sound (upd f j (storeW (f j) v)) := by
  intro k hk hl
  unfold upd at hl ⊢
  split at hl
  · simp [storeW] at hl
  · rename_i hc
    rw [if_neg hc]; exact h k hk hl
theorem sound_put {f : Nat → Wd} (h : Sound f) (x : Pt) : Sound (doPt f x) := by
  unfold doPt
  split
  · exact sound_flush (by omega) h
  · exact sound_store h _ _
theorem sound_filled (l : List Pt) : Sound (filledL l) := by
  unfold filledL
  suffices ∀ f, Sound f → Sound (l.foldl doPt f) from this _ sound_zero
  induction l with
  | nil => intro f h; exact h
  | cons x l ih => intro f h; exact ih _ (sound_put h x)
theorem rowL_congr {p : Wd → Int} {q : Wd → Int} {f g : Nat → Wd} {n : Nat} (h : ∀ k, k < n → p (f k) = q (g k)) : rowL p f n = rowL q g n := by
  unfold rowL
  apply List.map_congr_left
  intro k hk
  exact h k (List.mem_range.1 hk)
theorem lsL_nil {f : Nat → Wd} (h : ∀ k, k < 16 → (f k).loose = false) : (lsL f).length = 0 := by
  rw [List.length_eq_zero_iff]
  refine List.eq_nil_iff_forall_not_mem.2 fun x hx => ?_
  have := (looseL_mem (fl := fun k => (f (0 + k)).loose) x).1 hx
  simp only [Nat.zero_add] at this
  rw [h x.1 x.2] at this
  cases this
/-- A crash of which nothing is picked, or all. -/
theorem crash_none {f : Nat → Wd} (h : Sound f) (k : Nat) (hk : k < 16) : let g := gone (crashW []) 0 0 (lsL f) f; (g k).sure = (f k).sure ∧ (g k).seen = (f k).sure ∧ (g k).loose = false := by
  show ((gone (crashW []) 0 0 (lsL f) f) k).sure = (f k).sure ∧ _ ∧ _
  rw [gone_ls (crashW []) (crashP 0) f (fun j _ x => by simp [crashW]) k hk]
  cases hl : (f k).loose
  · rw [if_neg (by simp)]
    exact ⟨rfl, (h k hk hl).1, hl⟩
  · rw [if_pos rfl]
    exact ⟨rfl, rfl, rfl⟩
theorem crash_all {f : Nat → Wd} (h : Sound f) (k : Nat) (hk : k < 16) : let g := gone (crashW (List.replicate 16 2)) 0 0 (lsL f) f; (g k).sure = (f k).seen ∧ (g k).seen = (f k).seen ∧ (g k).loose = false := by
  show ((gone (crashW (List.replicate 16 2)) 0 0 (lsL f) f) k).sure = (f k).seen ∧ _ ∧ _
  rw [gone_ls (crashW (List.replicate 16 2)) (crashP 2) f (fun j hj x => by show crashP (((List.replicate 16 (2 : Int))[j]?.getD 0) % 3) x = crashP 2 x; rw [List.getElem?_replicate, if_pos hj]; rfl) k hk]
  cases hl : (f k).loose
  · rw [if_neg (by simp)]
    exact ⟨(h k hk hl).1.symm, rfl, hl⟩
  · rw [if_pos rfl]
    exact ⟨rfl, rfl, rfl⟩

end Go.Proofs.Ytfjobldfdakfpaa
