/-
  ONE FUNCTION FOR BOTH DEVICES, PLAINLY: what is true of all words; steps and crashes are the same of both.
-/
import Derived.Test.YtkopfnldgnkkoaaGreatRrD
import Derived.Test.YtkopfnldgnkkoaaGreatGs
namespace Go.Proofs.YtkopfnldgnkkoaaGreat
open Go.RowKit Go.Shelf
set_option linter.unusedVariables false

/-- What is true of each word that a device has. -/
structure SndW (x : Wd) : Prop where
  cl : x.loose = false → x.seen = x.sure ∧ x.flushed = false ∧ x.again = false ∧ x.value = 0
  fv : x.flushed = true → x.again = false → x.value = x.seen
def Snd (N : Nat) (f : Nat → Wd) : Prop := ∀ k, k < N → SndW (f k)
theorem snd_store {x : Wd} (v : Int) : SndW (storeW x v) := ⟨fun h => (by cases h), fun _ h => (by cases h)⟩
theorem snd_flush (x : Wd) : SndW (flushW x) := ⟨fun h => (by cases h), fun _ _ => rfl⟩
theorem snd_fence {x : Wd} (h : SndW x) : SndW (fenceW x) := by
  cases hf : x.flushed
  · rw [fence_no hf]; exact h
  · rw [fence_yes hf]
    exact ⟨fun ha => ⟨(h.fv hf ha).symm, rfl, ha, rfl⟩, fun h2 => by cases h2⟩
theorem snd_evict (x : Wd) : SndW (evictW x) := ⟨fun _ => ⟨rfl, rfl, rfl, rfl⟩, fun h => by cases h⟩
theorem snd_crash (p : Int) (x : Wd) : SndW (crashP p x) := ⟨fun _ => ⟨rfl, rfl, rfl, rfl⟩, fun h => by cases h⟩
theorem Snd.upd {N : Nat} {f : Nat → Wd} (h : Snd N f) (k : Nat) {x : Wd} (hx : SndW x) : Snd N (upd f k x) := fun j hj => by
  rw [upd_at]; split
  · exact hx
  · exact h j hj
theorem Snd.line {N : Nat} {f : Nat → Wd} (h : Snd N f) (i : Nat) {op : Wd → Wd} (hop : ∀ x, SndW (op x)) : Snd N (lineU i op f) := fun j hj => by
  unfold lineU; split
  · exact hop _
  · exact h j hj
theorem Snd.doOpR {N : Nat} {f : Nat → Wd} (h : Snd N f) (o : Op9) : Snd N (doOpR o f) := by
  cases o with
  | store x v => exact h.upd _ (snd_store v)
  | flush l => exact h.line _ snd_flush
  | fence => exact fun k hk => snd_fence (h k hk)
theorem Snd.evict {N : Nat} {f : Nat → Wd} (h : Snd N f) (i : Nat) : Snd N (evictU i f) := h.line i snd_evict
theorem snd_filD (N : Nat) (zs : List Int) : Snd N (filD zs) := fun k _ => ⟨fun _ => ⟨rfl, rfl, rfl, rfl⟩, fun h => by cases h⟩
/-- A step does the same with both. -/
theorem doOp_same {N : Nat} {f : Nat → Wd} (h : Snd N f) (o : Op9) (k : Nat) (hk : k < N) : doOpR o f k = doOp o f k := by
  cases o with
  | store x v => rfl
  | flush l => rfl
  | fence =>
    show fenceW (f k) = fenceU f k
    unfold fenceU
    cases hl : (f k).loose
    · rw [if_neg (by simp), fence_no ((h k hk).cl hl).2.1]
    · rw [if_pos rfl]
theorem looseL_cnt (N : Nat) (f : Nat → Wd) : ∀ j, j ≤ N → (looseL N (fun k => (f (0 + k)).loose) j).length = lcN f j
  | 0, _ => by rw [looseL_zero]; rfl
  | j + 1, h => by
    rw [looseL_succ (by omega), lcN_succ]
    have ih := looseL_cnt N f j (by omega)
    rw [Nat.zero_add]
    by_cases hf : (f j).loose = true
    · rw [if_pos hf, if_pos hf, List.length_append, ih]; rfl
    · rw [if_neg hf, if_neg hf, ih]; rfl
theorem gone_cnt (N : Nat) (op : Nat → Wd → Wd) (f : Nat → Wd) : ∀ j, j ≤ N → ∀ k, gone op 0 0 (looseL N (fun k => (f (0 + k)).loose) j) f k = if k < j ∧ (f k).loose = true then op (lcN f k) (f k) else f k
  | 0, _, k => by rw [looseL_zero, if_neg (by omega)]; rfl
  | j + 1, h, k => by
    have ih := gone_cnt N op f j (by omega)
    rw [looseL_succ (by omega), Nat.zero_add]
    by_cases hf : (f j).loose = true
    · rw [if_pos hf, gone_snoc, Nat.zero_add, Nat.zero_add, looseL_cnt N f j (by omega), ih j, if_neg (by omega), upd_at]
      by_cases e : k = j
      · subst e; rw [if_pos rfl, if_pos ⟨Nat.lt_succ_self _, hf⟩]
      · rw [if_neg e, ih k]
        by_cases h2 : k < j ∧ (f k).loose = true
        · rw [if_pos h2, if_pos ⟨by omega, h2.2⟩]
        · rw [if_neg h2, if_neg (fun hh => h2 ⟨by omega, hh.2⟩)]
    · rw [if_neg hf, ih k]
      by_cases h2 : k < j ∧ (f k).loose = true
      · rw [if_pos h2, if_pos ⟨by omega, h2.2⟩]
      · rw [if_neg h2, if_neg (fun hh => h2 ⟨by
          rcases Nat.lt_or_ge k j with h3 | h3
          · exact h3
          · have : k = j := by omega
            subst this
            exact absurd hh.2 hf, hh.2⟩)]
/-- A crash does the same with both. -/
theorem crash_same {N : Nat} {f : Nat → Wd} (h : Snd N f) (zs : List Int) (k : Nat) (hk : k < N) : gone (crashW zs) 0 0 (lsL N f) f k = crR zs f k := by
  unfold lsL
  rw [gone_cnt N (crashW zs) f N (Nat.le_refl _) k]
  unfold crR
  cases hl : (f k).loose
  · rw [if_neg (by simp), if_neg (by simp)]
    obtain ⟨h1, h2, h3, h4⟩ := (h k hk).cl hl
    rw [crashP_eq]
    have : pickV 0 (f k) = (f k).sure := by unfold pickV; simp
    rw [this]
    generalize f k = x at *
    obtain ⟨x0, x1, x2, x3, x4, x5⟩ := x
    simp only at h1 h2 h3 h4 hl ⊢
    subst h1 h2 h3 h4 hl
    rfl
  · rw [if_pos ⟨hk, rfl⟩, if_pos rfl]; rfl
theorem Snd.crash {N : Nat} {f : Nat → Wd} (zs : List Int) : Snd N (crR zs f) := fun k _ => snd_crash _ _
end Go.Proofs.YtkopfnldgnkkoaaGreat
