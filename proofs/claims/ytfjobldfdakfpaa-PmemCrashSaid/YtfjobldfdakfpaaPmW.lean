/-
  PLAIN LAWS FOR PmemCrash.
-/
import Derived.Test.YtfjobldfdakfpaaPmV
namespace Go.Proofs.Ytfjobldfdakfpaa
open Go.RowKit
set_option linter.unusedVariables false

theorem gone_some (op : Nat → Wd → Wd) (o : Nat) {m : Nat} (pre : List (Fin m)) (hnd : pre.Nodup) : ∀ (i : Nat) (f : Nat → Wd) (k : Nat), (∃ x ∈ pre, o + x.1 = k) → ∃ j, gone op o i pre f k = op j (f k) := by
  induction pre with
  | nil => intro i f k ⟨x, hx, _⟩; cases hx
  | cons y r ih =>
    intro i f k ⟨x, hx, e⟩
    obtain ⟨hy, hr⟩ := List.nodup_cons.1 hnd
    simp only [gone]
    by_cases hk : o + y.1 = k
    · subst hk
      have hn : ∀ x ∈ r, o + x.1 ≠ o + y.1 := fun x hx e => hy (by rw [show y = x from Fin.ext (by omega)]; exact hx)
      exact ⟨i, by rw [gone_other _ _ _ _ hn, upd_same]⟩
    · have hu : upd f (o + y.1) (op i (f (o + y.1))) k = f k := by unfold upd; rw [if_neg (fun e => hk e.symm)]
      rcases List.mem_cons.1 hx with rfl | hx
      · exact absurd e hk
      · obtain ⟨j, hj⟩ := ih hr (i + 1) (upd f (o + y.1) (op i (f (o + y.1)))) k ⟨x, hx, e⟩
        exact ⟨j, by rw [hj, hu]⟩
theorem crash_any_at (zs : List Int) (f : Nat → Wd) (k : Nat) (hk : k < 16) : ((f k).loose = false ∧ gone (crashW zs) 0 0 (lsL f) f k = f k) ∨ ∃ p, gone (crashW zs) 0 0 (lsL f) f k = crashP p (f k) := by
  cases hl : (f k).loose
  · refine .inl ⟨rfl, gone_other _ _ _ _ (fun x hx e => ?_) 0 f⟩
    have := (looseL_mem (fl := fun i => (f (0 + i)).loose) x).1 hx
    rw [e, hl] at this; cases this
  · obtain ⟨j, hj⟩ := gone_some (crashW zs) 0 (lsL f) (looseL_nodup _ _ _) 0 f k ⟨⟨k, hk⟩, (looseL_mem (fl := fun i => (f (0 + i)).loose) _).2 (by show (f (0 + k)).loose = true; rw [Nat.zero_add]; exact hl), by show 0 + k = k; omega⟩
    exact .inr ⟨_, hj⟩
/-- Each value of a word is one of some. -/
structure Since (p : Int → Prop) (x : Wd) : Prop where
  s : p x.sure
  e : p x.seen
  v : x.flushed = true → p x.value
theorem since_flush {p : Int → Prop} {x : Wd} (h : Since p x) : Since p (flushW x) := ⟨h.s, h.e, fun _ => h.e⟩
theorem since_store {p : Int → Prop} {x : Wd} (h : Since p x) (v : Int) (hv : p v) : Since p (storeW x v) := ⟨h.s, hv, h.v⟩
theorem since_evict {p : Int → Prop} {x : Wd} (h : Since p x) : Since p (evictW x) := ⟨h.e, h.e, fun e => by cases e⟩
theorem since_crash {p : Int → Prop} {x : Wd} (h : Since p x) (q : Int) : Since p (crashP q x) := by
  have hp : p (pickV q x) := by
    unfold pickV
    split
    · exact h.e
    · split
      · rename_i h2; exact h.v h2.2
      · exact h.s
  exact ⟨hp, hp, fun e => by cases e⟩

/-- Stores alone. -/
def storeP (f : Nat → Wd) (x : Pt) : Nat → Wd := upd f (x.q % 16) (storeW (f (x.q % 16)) x.v)
def firstL (l : List Pt) : Nat → Wd := l.foldl storeP (fun _ => zeroW)
theorem firstL_succ (l : List Pt) (k : Nat) (h : k < l.length) : firstL (l.take (k + 1)) = storeP (firstL (l.take k)) l[k] := by
  unfold firstL
  rw [List.take_succ_eq_append_getElem h, List.foldl_append]; rfl
theorem fed_store {f : Nat → Wd} (h : Fed f) (x : Pt) : Fed (storeP f x) := by
  intro k hk
  unfold storeP upd
  split
  · exact fedW_store _
  · exact h k hk
theorem first_fine (l : List Pt) : Sound (firstL l) ∧ Fed (firstL l) := by
  unfold firstL
  suffices ∀ f, Sound f → Fed f → Sound (l.foldl storeP f) ∧ Fed (l.foldl storeP f) from this _ sound_zero (fun _ _ => fedW_zero)
  induction l with
  | nil => intro f h1 h2; exact ⟨h1, h2⟩
  | cons x l ih => intro f h1 h2; exact ih _ (sound_store h1 _ _) (fed_store h2 x)
theorem fed_flush {i : Nat} (hi : i < 2) {f : Nat → Wd} (h : Fed f) : Fed (flushL i f) := by
  intro k hk
  rw [flushL_at i hi f k hk]
  split
  · exact fedW_flush
  · exact h k hk
def settledL (f : Nat → Wd) : Nat → Wd := gone (fun _ => fenceW) 0 0 (lsL (flushL 1 (flushL 0 f))) (flushL 1 (flushL 0 f))
theorem settled_at {f : Nat → Wd} (h1 : Sound f) (h2 : Fed f) (k : Nat) (hk : k < 16) : (settledL f k).sure = (f k).seen ∧ (settledL f k).seen = (f k).seen ∧ (settledL f k).loose = false ∧ (settledL f k).flushed = false := by
  have e := fence_at (sound_flush (i := 1) (by omega) (sound_flush (i := 0) (by omega) h1)) (fed_flush (i := 1) (by omega) (fed_flush (i := 0) (by omega) h2)) k hk
  unfold settledL
  rw [e, flushL_at 1 (by omega) _ k hk, flushL_at 0 (by omega) f k hk]
  cases hl : (f k).loose
  · have hn := h1 k hk hl
    rw [if_neg (c := k / 8 = 0 ∧ false = true) (by simp), hl, if_neg (by simp)]
    unfold fenceW
    rw [if_neg (by rw [hn.2]; simp)]
    exact ⟨hn.1.symm, rfl, hl, hn.2⟩
  · by_cases h0 : k / 8 = 0
    · rw [if_pos (c := k / 8 = 0 ∧ true = true) ⟨h0, rfl⟩, if_neg (by omega)]
      exact ⟨rfl, rfl, rfl, rfl⟩
    · rw [if_neg (c := k / 8 = 0 ∧ true = true) (fun hh => h0 hh.1), hl, if_pos ⟨by omega, rfl⟩]
      exact ⟨rfl, rfl, rfl, rfl⟩
theorem settled_sound {f : Nat → Wd} (h1 : Sound f) (h2 : Fed f) : Sound (settledL f) := fun k hk _ => by
  obtain ⟨a, b, c, d⟩ := settled_at h1 h2 k hk
  exact ⟨b.trans a.symm, d⟩
/-- What may stand in word m. -/
def mayP (l : List Pt) (u : Int) (m : Nat) (v : Int) : Prop := v = u ∨ ∃ x ∈ l, x.fl = false ∧ x.q % 16 = m ∧ x.v = v
def thenL (f : Nat → Wd) (l : List Pt) : Nat → Wd := l.foldl doPt f
theorem thenL_succ (f : Nat → Wd) (l : List Pt) (k : Nat) (h : k < l.length) : thenL f (l.take (k + 1)) = doPt (thenL f (l.take k)) l[k] := by
  unfold thenL
  rw [List.take_succ_eq_append_getElem h, List.foldl_append]; rfl
theorem sound_then {f : Nat → Wd} (h : Sound f) (l : List Pt) : Sound (thenL f l) := by
  unfold thenL
  induction l generalizing f with
  | nil => exact h
  | cons x l ih => exact ih (sound_put h x)
theorem since_then (l0 : List Pt) (u : Nat → Int) (l : List Pt) (hs : ∀ x ∈ l, x ∈ l0) : ∀ f, (∀ m, m < 16 → Since (mayP l0 (u m) m) (f m)) → ∀ m, m < 16 → Since (mayP l0 (u m) m) (thenL f l m) := by
  unfold thenL
  induction l with
  | nil => intro f h; exact h
  | cons x l ih =>
    intro f h
    refine ih (fun y hy => hs y (List.mem_cons_of_mem _ hy)) (doPt f x) (fun m hm => ?_)
    cases hf : x.fl
    · rw [put_store hf m]
      split
      · rename_i e
        exact since_store (h m hm) _ (.inr ⟨x, hs x List.mem_cons_self, hf, e.symm, rfl⟩)
      · exact h m hm
    · rw [put_flush hf m hm]
      split
      · exact since_flush (h m hm)
      · exact h m hm
def evictsL (f : Nat → Wd) (l : List Nat) : Nat → Wd := l.foldl (fun f e => evictL (e % 2) f) f
theorem sound_evicts {f : Nat → Wd} (h : Sound f) (l : List Nat) : Sound (evictsL f l) := by
  unfold evictsL
  induction l generalizing f with
  | nil => exact h
  | cons x l ih => exact ih (sound_evict (by omega) h)
theorem since_evicts (p : Nat → Int → Prop) (l : List Nat) : ∀ f, (∀ m, m < 16 → Since (p m) (f m)) → ∀ m, m < 16 → Since (p m) (evictsL f l m) := by
  unfold evictsL
  induction l with
  | nil => intro f h; exact h
  | cons x l ih =>
    intro f h
    refine ih _ (fun m hm => ?_)
    show Since (p m) (evictL (x % 2) f m)
    rw [evictL_at (x % 2) (by omega) f m hm]
    split
    · exact since_evict (h m hm)
    · exact h m hm
/-- THE LAW: behind a crash each word is sure as seen, not loose, and one of those that may be. -/
theorem crash_law (l0 : List Pt) (u : Nat → Int) (zs : List Int) {f : Nat → Wd} (h : Sound f) (hs : ∀ m, m < 16 → Since (mayP l0 (u m) m) (f m)) (k : Nat) (hk : k < 16) :
    mayP l0 (u k) k (gone (crashW zs) 0 0 (lsL f) f k).sure ∧ (gone (crashW zs) 0 0 (lsL f) f k).sure = (gone (crashW zs) 0 0 (lsL f) f k).seen ∧ (gone (crashW zs) 0 0 (lsL f) f k).loose = false := by
  rcases crash_any_at zs f k hk with ⟨hl, e⟩ | ⟨p, e⟩
  · rw [e]; exact ⟨(hs k hk).s, (h k hk hl).1.symm, hl⟩
  · rw [e]; exact ⟨(since_crash (hs k hk) p).s, rfl, rfl⟩

end Go.Proofs.Ytfjobldfdakfpaa
