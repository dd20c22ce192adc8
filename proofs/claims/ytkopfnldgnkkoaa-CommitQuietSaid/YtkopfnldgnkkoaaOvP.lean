/-
  OVER: plain laws: words without commit words; Over of Over.
-/
import Derived.Test.YtkopfnldgnkkoaaOvH
namespace Go.Proofs.Ytkopfnldgnkkoaa
open Go.RowKit Go.Shelf
set_option linter.unusedVariables false

theorem comL_zero {g : G} {ar : List Int} (h : hd ar = 0) : comL g ar = [] := comL_no (by unfold comOk; rw [h]; simp)
theorem ovTo_zero {g : G} {ws : List Int} : ∀ k, (∀ j, j < k → hd (areaL ws j) = 0) → ovTo g ws k = ws
  | 0, _ => rfl
  | k + 1, h => by
    show putsL (ovTo g ws k) (comL g (areaL ws k)) = ws
    rw [ovTo_zero k fun j hj => h j (by omega), comL_zero (h k (by omega))]
    rfl
/-- Of words in which no commit word stands. -/
theorem overL_zero {g : G} {ws : List Int} (ho : ovOk g ws.length) (h : ∀ j : Nat, (j : Int) < g.w → hd (areaL ws j) = 0) : overL g ws = clr ws (264 + 208 * g.w.toNat) := by
  unfold overL
  rw [if_pos ho, ovTo_zero _ fun j hj => h j (by omega)]
theorem hd_area (ws : List Int) (k : Nat) : hd (areaL ws k) = ws[264 + 208 * k]?.getD 0 := by
  unfold hd areaL
  rw [List.getElem?_take_of_lt (by omega), List.getElem?_drop, Nat.add_zero]
theorem clr_clr (zs : List Int) (q : Nat) : clr (clr zs q) q = clr zs q := by
  refine List.ext_getElem? fun i => ?_
  rw [clr_at, clr_at]
  cases zs[i]? with
  | none => rfl
  | some z =>
    simp only [Option.map_some]
    by_cases h : 264 ≤ i ∧ i < q
    · rw [if_pos h, if_pos h]
    · rw [if_neg h, if_neg h]
theorem overL_overL (g : G) (ws : List Int) (ho : ovOk g ws.length) : overL g (overL g ws) = overL g ws := by
  have e : overL g ws = clr (ovTo g ws g.w.toNat) (264 + 208 * g.w.toNat) := if_pos ho
  have hl : (clr (ovTo g ws g.w.toNat) (264 + 208 * g.w.toNat)).length = ws.length := by rw [clr_len, ovTo_len]
  rw [e, overL_zero (by rw [hl]; exact ho), clr_clr]
  intro j hj
  rw [hd_area, clr_at]
  cases (ovTo g ws g.w.toNat)[264 + 208 * j]? with
  | none => rfl
  | some z => simp only [Option.map_some, Option.getD_some]; rw [if_pos (by omega)]
theorem putsL_u64 {l : List Wr} : ∀ {zs : List Int}, (∀ x ∈ zs, u64 x) → (∀ x ∈ l, u64 x.2) → ∀ x ∈ putsL zs l, u64 x := by
  induction l with
  | nil => exact fun h _ => h
  | cons y l ih =>
    intro zs h hl
    refine ih (zs := zs.set y.1.toNat y.2) (fun x hx => ?_) fun x hx => hl x (List.mem_cons_of_mem _ hx)
    rcases List.mem_or_eq_of_mem_set hx with hx | rfl
    · exact h x hx
    · exact hl y List.mem_cons_self
theorem readL_u64 {g : G} {ws : List Int} (h : ∀ x ∈ ws, u64 x) : ∀ x ∈ readL g ws, u64 x.2 := by
  intro x hx
  unfold readL at hx
  by_cases hr : readOk g ws = true
  · rw [if_pos hr] at hx
    simp only [pairsN, List.mem_map, List.mem_range] at hx
    obtain ⟨i, _, rfl⟩ := hx
    show u64 (ws[2 + 2 * i]?.getD 0)
    cases e : ws[2 + 2 * i]? with
    | none => exact ⟨by simp, by simp⟩
    | some v => exact h v (List.mem_of_getElem? e)
  · rw [if_neg hr] at hx; cases hx
theorem overL_u64 {g : G} {ws : List Int} (h : ∀ x ∈ ws, u64 x) : ∀ x ∈ overL g ws, u64 x := by
  have ht : ∀ k, ∀ x ∈ ovTo g ws k, u64 x := by
    intro k
    induction k with
    | zero => exact h
    | succ k ih =>
      refine putsL_u64 ih fun x hx => ?_
      unfold comL at hx
      by_cases hc : comOk g (areaL ws k) = true
      · rw [if_pos hc] at hx
        exact readL_u64 (fun y hy => h y (areaL_mem (List.mem_of_mem_drop hy))) x hx
      · rw [if_neg hc] at hx; cases hx
  intro x hx
  unfold overL at hx
  by_cases ho : ovOk g ws.length
  · rw [if_pos ho] at hx
    unfold clr at hx
    rw [List.mem_mapIdx] at hx
    obtain ⟨i, hi, rfl⟩ := hx
    by_cases hb : 264 ≤ i ∧ i < 264 + 208 * g.w.toNat
    · rw [if_pos hb]; exact ⟨by simp, by simp⟩
    · rw [if_neg hb]; exact ht _ _ (List.getElem_mem _)
  · rw [if_neg ho] at hx; cases hx
end Go.Proofs.Ytkopfnldgnkkoaa
