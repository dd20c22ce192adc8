/-
  PLAIN LAWS FOR PmemFenced; three rows of 16.
-/
import Derived.Test.YtfjobldfdakfpaaPmS
namespace Go.Proofs.Ytfjobldfdakfpaa
open Go.RowKit
set_option linter.unusedVariables false

structure FedW (x : Wd) : Prop where
  a : x.loose = false → x.again = false
  b : x.flushed = false → x.loose = true → x.again = true
  c : x.flushed = true → x.again = false → x.seen = x.value
  d : x.flushed = true → x.loose = true
def Fed (f : Nat → Wd) : Prop := ∀ k, k < 16 → FedW (f k)
theorem fedW_zero : FedW zeroW := ⟨by decide, by decide, by decide, by decide⟩
theorem fedW_store {x : Wd} (v : Int) : FedW (storeW x v) := ⟨by simp [storeW], by simp [storeW], by simp [storeW], by simp [storeW]⟩
theorem fedW_flush {x : Wd} : FedW (flushW x) := ⟨by simp [flushW], by simp [flushW], by simp [flushW], by simp [flushW]⟩
theorem fed_put {f : Nat → Wd} (h : Fed f) (x : Pt) : Fed (doPt f x) := by
  intro k hk
  unfold doPt
  split
  · rw [flushL_at _ (by omega) f k hk]
    split
    · exact fedW_flush
    · exact h k hk
  · unfold upd
    split
    · exact fedW_store _
    · exact h k hk
theorem fed_filled (l : List Pt) : Fed (filledL l) := by
  unfold filledL
  suffices ∀ f, Fed f → Fed (l.foldl doPt f) from this _ (fun _ _ => fedW_zero)
  induction l with
  | nil => intro f h; exact h
  | cons x l ih => intro f h; exact ih _ (fed_put h x)
def keptV (x : Wd) : Int := (fenceW x).sure
/-- What a fence leaves. -/
theorem fence_at {f : Nat → Wd} (h : Sound f) (hf : Fed f) (k : Nat) (hk : k < 16) : gone (fun _ => fenceW) 0 0 (lsL f) f k = fenceW (f k) := by
  rw [gone_ls (fun _ => fenceW) fenceW f (fun _ _ _ => rfl) k hk]
  cases hl : (f k).loose
  · rw [if_neg (by simp), fenceW, if_neg (by rw [(h k hk hl).2]; simp)]
  · rw [if_pos rfl]
theorem fenceW_seen (x : Wd) : (fenceW x).seen = x.seen := by unfold fenceW; split <;> rfl
theorem fenceW_loose {x : Wd} (h : FedW x) : (fenceW x).loose = x.again := by
  unfold fenceW
  cases hf : x.flushed
  · rw [if_neg (by simp)]
    cases hl : x.loose
    · exact (h.a hl).symm
    · exact (h.b hf hl).symm
  · rw [if_pos rfl]
theorem fence_sound {f : Nat → Wd} (h : Sound f) (hf : Fed f) : Sound (gone (fun _ => fenceW) 0 0 (lsL f) f) := by
  intro k hk hl
  rw [fence_at h hf k hk] at hl ⊢
  rw [fenceW_loose (hf k hk)] at hl
  unfold fenceW
  cases hfl : (f k).flushed
  · rw [if_neg (by simp)]
    have hlo : (f k).loose = false := by
      cases hq : (f k).loose
      · rfl
      · rw [(hf k hk).b hfl hq] at hl; cases hl
    exact ⟨(h k hk hlo).1, hfl⟩
  · rw [if_pos rfl]
    exact ⟨(hf k hk).c hfl hl, rfl⟩
theorem fence_count {f : Nat → Wd} (h : Sound f) (hf : Fed f) : lsL (gone (fun _ => fenceW) 0 0 (lsL f) f) = looseL 16 (fun k => (f k).again) 16 := by
  unfold lsL looseL
  apply List.filter_congr
  intro x _
  show (gone (fun _ => fenceW) 0 0 (lsL f) f (0 + x.1)).loose = (f x.1).again
  rw [Nat.zero_add, fence_at h hf x.1 x.2, fenceW_loose (hf x.1 x.2)]
/-- One put, told of each word. -/
theorem put_store {f : Nat → Wd} {x : Pt} (hx : x.fl = false) (k : Nat) : doPt f x k = if k = x.q % 16 then storeW (f k) x.v else f k := by
  unfold doPt
  rw [if_neg (by rw [hx]; simp), upd]
  split
  · rename_i e; rw [e]
  · rfl
theorem put_flush {f : Nat → Wd} {x : Pt} (hx : x.fl = true) (k : Nat) (hk : k < 16) : doPt f x k = if k / 8 = x.q % 16 / 8 ∧ (f k).loose = true then flushW (f k) else f k := by
  unfold doPt
  rw [if_pos hx, flushL_at _ (by omega) f k hk]
theorem kept_store (x : Wd) (v : Int) : keptV (storeW x v) = keptV x := by
  unfold keptV fenceW storeW
  cases x.flushed <;> rfl
theorem kept_put_flush {f : Nat → Wd} (h : Sound f) {x : Pt} (hx : x.fl = true) (k : Nat) (hk : k < 16) : keptV (doPt f x k) = if k / 8 = x.q % 16 / 8 then (f k).seen else keptV (f k) := by
  rw [put_flush hx k hk]
  by_cases e : k / 8 = x.q % 16 / 8
  · rw [if_pos e]
    cases hl : (f k).loose
    · rw [if_neg (by simp)]
      obtain ⟨h1, h2⟩ := h k hk hl
      rw [keptV, fenceW, if_neg (by rw [h2]; simp), h1]
    · rw [if_pos ⟨e, rfl⟩]; rfl
  · rw [if_neg e, if_neg (fun hh => e hh.1)]
theorem again_put_flush {f : Nat → Wd} (hf : Fed f) {x : Pt} (hx : x.fl = true) (k : Nat) (hk : k < 16) : (doPt f x k).again = if k / 8 = x.q % 16 / 8 then false else (f k).again := by
  rw [put_flush hx k hk]
  by_cases e : k / 8 = x.q % 16 / 8
  · rw [if_pos e]
    cases hl : (f k).loose
    · rw [if_neg (by simp)]; exact (hf k hk).a hl
    · rw [if_pos ⟨e, rfl⟩]; rfl
  · rw [if_neg e, if_neg (fun hh => e hh.1)]
theorem seen_put_flush {f : Nat → Wd} {x : Pt} (hx : x.fl = true) (k : Nat) (hk : k < 16) : (doPt f x k).seen = (f k).seen := by
  rw [put_flush hx k hk]; split <;> rfl

/-- Three rows. -/
structure Tri (W : World) (gk gv ga : Nat) (K V : Nat → Int) (A : Nat → Bool) : Prop where
  k : ∀ m, m < 16 → W.cell? ⟨gk, m, none⟩ = some (.int .u64 (K m))
  v : ∀ m, m < 16 → W.cell? ⟨gv, m, none⟩ = some (.int .u64 (V m))
  a : ∀ m, m < 16 → W.cell? ⟨ga, m, none⟩ = some (.bool (A m))
  fk : ∀ j, W.frozen? ⟨gk, j, none⟩ = false
  fv : ∀ j, W.frozen? ⟨gv, j, none⟩ = false
  fa : ∀ j, W.frozen? ⟨ga, j, none⟩ = false
theorem Tri.congr {W : World} {gk gv ga : Nat} {K V K' V' : Nat → Int} {A A' : Nat → Bool} (h : Tri W gk gv ga K V A) (hk : ∀ m, m < 16 → K m = K' m) (hv : ∀ m, m < 16 → V m = V' m) (ha : ∀ m, m < 16 → A m = A' m) : Tri W gk gv ga K' V' A' :=
  ⟨fun m hm => by rw [h.k m hm, hk m hm], fun m hm => by rw [h.v m hm, hv m hm], fun m hm => by rw [h.a m hm, ha m hm], h.fk, h.fv, h.fa⟩
theorem cell_far (W : World) (b b' j j' : Nat) (hb : b ≠ b') (v : Value) : (W.setCell ⟨b', j', none⟩ v).cell? ⟨b, j, none⟩ = W.cell? ⟨b, j, none⟩ :=
  World.cell?_setCell_other W ⟨b', j', none⟩ ⟨b, j, none⟩ v (fun h => hb (by simpa using (congrArg Addr.block h).symm))
theorem Tri.setK {W : World} {gk gv ga : Nat} {K V : Nat → Int} {A : Nat → Bool} (h : Tri W gk gv ga K V A) (h1 : gv ≠ gk) (h2 : ga ≠ gk) (j : Nat) (u : Int) : Tri (W.setCell ⟨gk, j, none⟩ (.int .u64 u)) gk gv ga (fun m => if m = j then u else K m) V A :=
  ⟨fun m hm => cell_set W gk _ _ _ _ (h.k m hm) _ (by by_cases e : m = j <;> simp [e]), fun m hm => by rw [cell_far _ _ _ _ _ h1]; exact h.v m hm, fun m hm => by rw [cell_far _ _ _ _ _ h2]; exact h.a m hm, fun i => by rw [World.frozen?_setCell]; exact h.fk i, fun i => by rw [World.frozen?_setCell]; exact h.fv i, fun i => by rw [World.frozen?_setCell]; exact h.fa i⟩
theorem Tri.setV {W : World} {gk gv ga : Nat} {K V : Nat → Int} {A : Nat → Bool} (h : Tri W gk gv ga K V A) (h1 : gk ≠ gv) (h2 : ga ≠ gv) (j : Nat) (u : Int) : Tri (W.setCell ⟨gv, j, none⟩ (.int .u64 u)) gk gv ga K (fun m => if m = j then u else V m) A :=
  ⟨fun m hm => by rw [cell_far _ _ _ _ _ h1]; exact h.k m hm, fun m hm => cell_set W gv _ _ _ _ (h.v m hm) _ (by by_cases e : m = j <;> simp [e]), fun m hm => by rw [cell_far _ _ _ _ _ h2]; exact h.a m hm, fun i => by rw [World.frozen?_setCell]; exact h.fk i, fun i => by rw [World.frozen?_setCell]; exact h.fv i, fun i => by rw [World.frozen?_setCell]; exact h.fa i⟩
theorem Tri.setA {W : World} {gk gv ga : Nat} {K V : Nat → Int} {A : Nat → Bool} (h : Tri W gk gv ga K V A) (h1 : gk ≠ ga) (h2 : gv ≠ ga) (j : Nat) (u : Bool) : Tri (W.setCell ⟨ga, j, none⟩ (.bool u)) gk gv ga K V (fun m => if m = j then u else A m) :=
  ⟨fun m hm => by rw [cell_far _ _ _ _ _ h1]; exact h.k m hm, fun m hm => by rw [cell_far _ _ _ _ _ h2]; exact h.v m hm, fun m hm => cell_set W ga _ _ _ _ (h.a m hm) _ (by by_cases e : m = j <;> simp [e]), fun i => by rw [World.frozen?_setCell]; exact h.fk i, fun i => by rw [World.frozen?_setCell]; exact h.fv i, fun i => by rw [World.frozen?_setCell]; exact h.fa i⟩

end Go.Proofs.Ytfjobldfdakfpaa
