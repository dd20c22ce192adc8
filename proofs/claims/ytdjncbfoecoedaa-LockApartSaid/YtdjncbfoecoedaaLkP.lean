/-
  LOCKS: the plain laws.
-/
import Derived.Test.YtdjncbfoecoedaaLkI
namespace Go.Proofs.Ytdjncbfoecoedaa
open Go.RowKit
set_option linter.unusedVariables false

theorem popL_at (pre : List (Fin 70)) (hnd : pre.Nodup) (k : Nat) : ∀ s, (∃ x ∈ pre, x.1 = k) → popL s pre k = popK (s k) := by
  induction pre with
  | nil => intro s ⟨x, hx, _⟩; cases hx
  | cons y r ih =>
    intro s ⟨x, hx, e⟩
    obtain ⟨hy, hr⟩ := List.nodup_cons.1 hnd
    show popL (updF s y.1 (popK (s y.1))) r k = popK (s k)
    by_cases hk : y.1 = k
    · subst hk
      rw [popL_other r y.1 _ (fun z hz e => hy (by rw [show y = z from Fin.ext e.symm]; exact hz)), updF_same]
    · rcases List.mem_cons.1 hx with rfl | hx
      · exact absurd e hk
      · rw [ih hr _ ⟨x, hx, e⟩, updF_ne _ _ (fun e => hk e.symm)]
theorem pop_all (s : Nat → Lk) (k : Nat) (hk : k < 70) : popL s (looseL 70 (rdyB s) 70) k = if rdyB s k = true then popK (s k) else s k := by
  by_cases h : rdyB s k = true
  · rw [if_pos h]
    exact popL_at _ (looseL_nodup _ _ _) k s ⟨⟨k, hk⟩, (looseL_mem (fl := rdyB s) _).2 h, rfl⟩
  · rw [if_neg h]
    exact popL_other _ k s (fun x hx e => h (by rw [← e]; exact (looseL_mem (fl := rdyB s) x).1 hx))
theorem rel_all (s : Nat → Lk) (x : Int) (k : Nat) (hk : k < 70) : relTo s x 70 k = relK x (s k) := by unfold relTo; rw [if_pos hk]
theorem give_at (s : Nat → Lk) (x : Int) (k : Nat) (hk : k < 70) : giveS s x k = if rdyB (relTo s x 70) k = true then popK (relK x (s k)) else relK x (s k) := by
  unfold giveS; rw [pop_all _ k hk, rel_all s x k hk]
theorem lessL_mem {x y : Int} {q : List Int} : y ∈ lessL x q ↔ y ∈ q ∧ y ≠ x := by
  unfold lessL eqB
  rw [List.mem_filter]
  simp
/-- What one lock is behind a Give: it is given on, or stays with another one, or is free. -/
theorem give_cases (s : Nat → Lk) (x : Int) (k : Nat) (hk : k < 70) :
    (∃ f r, lessL x (s k).q = f :: r ∧ ((s k).h = x + 1 ∨ (s k).h = 0) ∧ giveS s x k = ⟨f + 1, r⟩) ∨
    ((s k).h ≠ x + 1 ∧ (s k).h ≠ 0 ∧ giveS s x k = ⟨(s k).h, lessL x (s k).q⟩) ∨
    (lessL x (s k).q = [] ∧ ((s k).h = x + 1 ∨ (s k).h = 0) ∧ giveS s x k = ⟨0, []⟩) := by
  rw [give_at s x k hk]
  have hr : rdyB (relTo s x 70) k = ((if ((s k).h == x + 1) = true then 0 else (s k).h) == 0 && decide (0 < (lessL x (s k).q).length)) := by
    unfold rdyB; rw [rel_all s x k hk]; rfl
  rw [hr]
  unfold relK popK
  by_cases h1 : (s k).h = x + 1
  · have hb : ((s k).h == x + 1) = true := by rw [beq_iff_eq]; exact h1
    rw [if_pos hb]
    cases hq : lessL x (s k).q with
    | nil => exact .inr (.inr ⟨rfl, .inl h1, by simp⟩)
    | cons f r => exact .inl ⟨f, r, rfl, .inl h1, by simp⟩
  · have hb : ¬ ((s k).h == x + 1) = true := by rw [beq_iff_eq]; exact h1
    rw [if_neg hb]
    by_cases h0 : (s k).h = 0
    · rw [h0]
      cases hq : lessL x (s k).q with
      | nil => exact .inr (.inr ⟨rfl, .inr rfl, by simp⟩)
      | cons f r => exact .inl ⟨f, r, rfl, .inr rfl, by simp⟩
    · refine .inr (.inl ⟨h1, h0, ?_⟩)
      rw [if_neg (by simp [h0])]

/-- What holds of a table at all times. -/
structure Ok (s : Nat → Lk) (n : Int) : Prop where
  h : ∀ i, i < 70 → 0 ≤ (s i).h ∧ (s i).h ≤ n
  e : ∀ i, i < 70 → ∀ y ∈ (s i).q, 0 ≤ y ∧ y < n
  f : ∀ i, i < 70 → (s i).h = 0 → (s i).q = []
  u : ∀ i j, i < 70 → j < 70 → ∀ y, y ∈ (s i).q → y ∈ (s j).q → i = j
  d : ∀ i, i < 70 → (s i).q.Nodup
  o : ∀ i j, i < 70 → j < 70 → ∀ y ∈ (s i).q, (s j).h = y + 1 → j < i
theorem ok_start (n : Int) (hn : 0 ≤ n) : Ok (fun _ => freeLk) n :=
  ⟨fun _ _ => ⟨Int.le_refl _, hn⟩, fun _ _ y hy => (by cases hy), fun _ _ _ => rfl, fun _ _ _ _ y hy => (by cases hy), fun _ _ => List.nodup_nil, fun _ _ _ _ y hy => (by cases hy)⟩
theorem waitsAt_none' {s : Nat → Lk} {x : Int} (h : waitsAt s x 70 = none) : ∀ i, i < 70 → x ∉ (s i).q := waitsAt_none.1 h
theorem waitsAt_some {s : Nat → Lk} {x : Int} {i : Nat} (h : waitsAt s x 70 = some i) : i < 70 ∧ x ∈ (s i).q := by
  unfold waitsAt at h
  rw [List.find?_range_eq_some] at h
  exact ⟨by simpa using h.2.1, by simpa using h.1⟩
theorem heldL_mem {s : Nat → Lk} {x : Int} {k : Nat} {y : Int} : y ∈ heldL s x k ↔ ∃ i : Nat, i < k ∧ (s i).h = x + 1 ∧ y = i := by
  unfold heldL
  simp only [List.mem_map, List.mem_filter, List.mem_range, beq_iff_eq]
  constructor
  · rintro ⟨i, ⟨h1, h2⟩, rfl⟩; exact ⟨i, h1, h2, rfl⟩
  · rintro ⟨i, h1, h2, rfl⟩; exact ⟨i, ⟨h1, h2⟩, rfl⟩
theorem held_below {s : Nat → Lk} {x : Int} {i : Nat} (h : (heldL s x 70).any (geB i) = false) : ∀ j, j < 70 → (s j).h = x + 1 → j < i := by
  intro j hj hh
  have := List.any_eq_false.1 h (j : Int) (heldL_mem.2 ⟨j, hj, hh, rfl⟩)
  simp only [geB, decide_eq_true_eq] at this
  omega
theorem updF_at {α : Type} (f : Nat → α) (k : Nat) (x : α) (i : Nat) : updF f k x i = if i = k then x else f i := rfl
theorem ok_want {s : Nat → Lk} {n : Int} (h : Ok s n) (x : Int) (h0 : 0 ≤ x) (hx : x < n) (lock : Int) : Ok (wantS s x lock).1 n := by
  unfold wantS
  split
  · exact h
  · rename_i ho
    split
    · exact h
    · rename_i han
      split
      · exact h
      · rename_i hwa
        obtain ⟨i, rfl⟩ : ∃ i : Nat, lock = (i : Int) := ⟨lock.toNat, by omega⟩
        have hi : i < 70 := by omega
        rw [show ((i : Int)).toNat = i by omega]
        have hnone : waitsAt s x 70 = none := by cases hw : waitsAt s x 70 with
          | none => rfl
          | some m => rw [hw] at hwa; exact absurd rfl hwa
        have hnw := waitsAt_none' hnone
        have hhb := held_below (by simpa using han)
        split
        · rename_i hne
          dsimp only
          refine ⟨fun j hj => ?_, fun j hj y hy => ?_, fun j hj hf => ?_, fun j k hj hk y hy hy' => ?_, fun j hj => ?_, fun j k hj hk y hy hh => ?_⟩
          · by_cases e : j = i
            · subst e; rw [updF_same]; exact h.h j hj
            · rw [updF_ne _ _ e]; exact h.h j hj
          · by_cases e : j = i
            · subst e; rw [updF_same] at hy
              rcases List.mem_append.1 hy with hy | hy
              · exact h.e j hj y hy
              · rw [List.mem_singleton.1 hy]; exact ⟨h0, hx⟩
            · rw [updF_ne _ _ e] at hy; exact h.e j hj y hy
          · by_cases e : j = i
            · subst e; rw [updF_same] at hf; exact absurd hf hne
            · rw [updF_ne _ _ e] at hf ⊢; exact h.f j hj hf
          · by_cases e : j = i
            · subst e
              by_cases e2 : k = j
              · exact e2.symm
              · rw [updF_same] at hy
                rw [updF_ne _ _ e2] at hy'
                rcases List.mem_append.1 hy with hy | hy
                · exact h.u j k hj hk y hy hy'
                · rw [List.mem_singleton.1 hy] at hy'; exact absurd hy' (hnw k hk)
            · rw [updF_ne _ _ e] at hy
              by_cases e2 : k = i
              · subst e2
                rw [updF_same] at hy'
                rcases List.mem_append.1 hy' with hy' | hy'
                · exact h.u j k hj hk y hy hy'
                · rw [List.mem_singleton.1 hy'] at hy; exact absurd hy (hnw j hj)
              · rw [updF_ne _ _ e2] at hy'
                exact h.u j k hj hk y hy hy'
          · by_cases e : j = i
            · subst e; rw [updF_same]
              refine List.nodup_append.2 ⟨h.d j hj, List.nodup_cons.2 ⟨by simp, List.nodup_nil⟩, fun a ha b hb => ?_⟩
              rw [List.mem_singleton.1 hb]; rintro rfl; exact hnw j hj ha
            · rw [updF_ne _ _ e]; exact h.d j hj
          · have hh' : (s k).h = y + 1 := by
              by_cases e2 : k = i
              · subst e2; rw [updF_same] at hh; exact hh
              · rw [updF_ne _ _ e2] at hh; exact hh
            by_cases e : j = i
            · subst e; rw [updF_same] at hy
              rcases List.mem_append.1 hy with hy | hy
              · exact h.o j k hj hk y hy hh'
              · rw [List.mem_singleton.1 hy] at hh'; exact hhb k hk hh'
            · rw [updF_ne _ _ e] at hy; exact h.o j k hj hk y hy hh'
        · rename_i hne
          dsimp only
          have hfree : (s i).h = 0 := by omega
          have hq : ∀ j, (updF s i ⟨x + 1, (s i).q⟩ j).q = (s j).q := fun j => by
            by_cases e : j = i
            · subst e; rw [updF_same]
            · rw [updF_ne _ _ e]
          refine ⟨fun j hj => ?_, fun j hj y hy => ?_, fun j hj hf => ?_, fun j k hj hk y hy hy' => ?_, fun j hj => ?_, fun j k hj hk y hy hh => ?_⟩
          · by_cases e : j = i
            · subst e; rw [updF_same]; constructor <;> (show _ ≤ _; dsimp only; omega)
            · rw [updF_ne _ _ e]; exact h.h j hj
          · rw [hq] at hy; exact h.e j hj y hy
          · by_cases e : j = i
            · subst e; rw [updF_same] at hf; dsimp only at hf; omega
            · rw [updF_ne _ _ e] at hf ⊢; exact h.f j hj hf
          · rw [hq] at hy hy'; exact h.u j k hj hk y hy hy'
          · rw [hq]; exact h.d j hj
          · rw [hq] at hy
            by_cases e2 : k = i
            · subst e2; rw [updF_same] at hh
              have : y = x := by dsimp only at hh; omega
              subst this
              exact absurd hy (hnw j hj)
            · rw [updF_ne _ _ e2] at hh; exact h.o j k hj hk y hy hh
/-- What is in a queue behind a Give was in it, and is another one. -/
theorem give_q {s : Nat → Lk} {x : Int} {k : Nat} (hk : k < 70) {y : Int} (hy : y ∈ (giveS s x k).q) : y ∈ (s k).q ∧ y ≠ x := by
  rcases give_cases s x k hk with ⟨f, r, h1, _, h3⟩ | ⟨_, _, h3⟩ | ⟨_, _, h3⟩
  · rw [h3] at hy
    exact lessL_mem.1 (by rw [h1]; exact List.mem_cons_of_mem _ hy)
  · rw [h3] at hy; exact lessL_mem.1 hy
  · rw [h3] at hy; cases hy
/-- Who holds a lock behind a Give held it, or waited for it; and is another one. -/
theorem give_h {s : Nat → Lk} {x : Int} {k : Nat} (hk : k < 70) {y : Int} (hy0 : 0 ≤ y) (hy : (giveS s x k).h = y + 1) : y ≠ x ∧ ((s k).h = y + 1 ∨ (y ∈ (s k).q ∧ y ∉ (giveS s x k).q ∨ y ∈ (s k).q)) := by
  rcases give_cases s x k hk with ⟨f, r, h1, _, h3⟩ | ⟨h1, _, h3⟩ | ⟨_, _, h3⟩
  · rw [h3] at hy
    dsimp only at hy
    obtain rfl : f = y := by omega
    have := lessL_mem.1 (show f ∈ lessL x (s k).q by rw [h1]; exact List.mem_cons_self)
    exact ⟨this.2, .inr (.inr this.1)⟩
  · rw [h3] at hy
    dsimp only at hy
    exact ⟨fun e => h1 (by rw [hy, e]), .inl hy⟩
  · rw [h3] at hy; dsimp only at hy; omega
theorem lessL_nodup {x : Int} {q : List Int} (h : q.Nodup) : (lessL x q).Nodup := h.sublist List.filter_sublist
theorem ok_give {s : Nat → Lk} {n : Int} (h : Ok s n) (x : Int) : Ok (giveS s x) n := by
  refine ⟨fun i hi => ?_, fun i hi y hy => h.e i hi y (give_q hi hy).1, fun i hi hf => ?_, fun i j hi hj y hy hy' => h.u i j hi hj y (give_q hi hy).1 (give_q hj hy').1, fun i hi => ?_, fun i j hi hj y hy hh => ?_⟩
  · rcases give_cases s x i hi with ⟨f, r, h1, _, h3⟩ | ⟨_, _, h3⟩ | ⟨_, _, h3⟩
    · rw [h3]
      have := h.e i hi f (lessL_mem.1 (by rw [h1]; exact List.mem_cons_self)).1
      dsimp only; omega
    · rw [h3]; exact h.h i hi
    · rw [h3]; have := h.h i hi; dsimp only; omega
  · rcases give_cases s x i hi with ⟨f, r, h1, _, h3⟩ | ⟨_, h2, h3⟩ | ⟨_, _, h3⟩
    · rw [h3] at hf
      have := h.e i hi f (lessL_mem.1 (by rw [h1]; exact List.mem_cons_self)).1
      dsimp only at hf; omega
    · rw [h3] at hf; exact absurd hf h2
    · rw [h3]
  · rcases give_cases s x i hi with ⟨f, r, h1, _, h3⟩ | ⟨_, _, h3⟩ | ⟨_, _, h3⟩
    · rw [h3]
      have := lessL_nodup (x := x) (h.d i hi)
      rw [h1] at this
      exact (List.nodup_cons.1 this).2
    · rw [h3]; exact lessL_nodup (h.d i hi)
    · rw [h3]; exact List.nodup_nil
  · have hyq := (give_q hi hy).1
    have hy0 := (h.e i hi y hyq).1
    rcases give_cases s x j hj with ⟨f, r, h1, _, h3⟩ | ⟨_, _, h3⟩ | ⟨_, _, h3⟩
    · rw [h3] at hh
      dsimp only at hh
      obtain rfl : f = y := by omega
      have hfj := (lessL_mem.1 (show f ∈ lessL x (s j).q by rw [h1]; exact List.mem_cons_self)).1
      obtain rfl := h.u i j hi hj f hyq hfj
      rw [h3] at hy
      have := lessL_nodup (x := x) (h.d i hi)
      rw [h1] at this
      exact absurd hy (List.nodup_cons.1 this).1
    · rw [h3] at hh; exact h.o i j hi hj y hyq hh
    · rw [h3] at hh; dsimp only at hh; omega

/-! ### What 'sound' asks -/
structure SoundP (s : Nat → Lk) (n : Nat) : Prop where
  h : ∀ i, i < 70 → 0 ≤ (s i).h ∧ (s i).h ≤ n
  w : ∀ x : Nat, x < n → ∀ i, waitsAt s x 70 = some i → i < 70 ∧ (s i).h ≠ 0 ∧ (s i).h ≠ x + 1 ∧ ∀ j, j < 70 → (s j).h = x + 1 → j < i
  g : (∃ x : Nat, x < n ∧ (waitsAt s x 70).isSome = true) → ∃ x : Nat, x < n ∧ (waitsAt s x 70).isSome = false ∧ (heldL s x 70) ≠ []
theorem last_of (p : Nat → Prop) : ∀ m, (∃ i, i < m ∧ p i) → ∃ i, i < m ∧ p i ∧ ∀ j, j < m → p j → j ≤ i
  | 0, ⟨i, hi, _⟩ => by omega
  | m + 1, ⟨i, hi, hp⟩ => by
    by_cases hm : p m
    · exact ⟨m, by omega, hm, fun j hj _ => by omega⟩
    · obtain ⟨k, hk, hpk, hall⟩ := last_of p m ⟨i, by
        by_cases e : i = m
        · subst e; exact absurd hp hm
        · omega, hp⟩
      exact ⟨k, by omega, hpk, fun j hj hpj => by
        by_cases e : j = m
        · subst e; exact absurd hpj hm
        · exact hall j (by omega) hpj⟩
theorem ok_sound {s : Nat → Lk} {n : Nat} (h : Ok s n) : SoundP s n := by
  refine ⟨h.h, fun x hx i hw => ?_, fun ⟨x, hx, hw⟩ => ?_⟩
  · obtain ⟨hi, hq⟩ := waitsAt_some hw
    refine ⟨hi, fun e => ?_, fun e => ?_, fun j hj hh => h.o i j hi hj x hq hh⟩
    · rw [h.f i hi e] at hq; cases hq
    · have := h.o i i hi hi x hq e; omega
  · obtain ⟨i, hi⟩ := Option.isSome_iff_exists.1 hw
    obtain ⟨hi, hq⟩ := waitsAt_some hi
    obtain ⟨m, hm, hqm, hall⟩ := last_of (fun i => (s i).q ≠ []) 70 ⟨i, hi, fun e => by rw [e] at hq; cases hq⟩
    have hb := h.h m hm
    have hne : (s m).h ≠ 0 := fun e => hqm (h.f m hm e)
    obtain ⟨y, hy⟩ : ∃ y : Nat, (s m).h = (y : Int) + 1 := ⟨((s m).h - 1).toNat, by omega⟩
    refine ⟨y, by omega, ?_, fun e => ?_⟩
    · cases hwy : waitsAt s y 70 with
      | none => rfl
      | some j =>
        obtain ⟨hj, hqj⟩ := waitsAt_some hwy
        have h1 := h.o j m hj hm y hqj hy
        have h2 := hall j hj (fun e => by rw [e] at hqj; cases hqj)
        omega
    · have := heldL_mem.2 ⟨m, hm, hy, rfl⟩
      rw [e] at this; cases this

/-! ### All come -/
def waitsP (s : Nat → Lk) (x : Int) : Prop := ∃ i, i < 70 ∧ x ∈ (s i).q
def holdsP (s : Nat → Lk) (x : Int) : Prop := ∃ i, i < 70 ∧ (s i).h = x + 1
theorem waits_iff {s : Nat → Lk} {x : Int} : (waitsAt s x 70).isSome = true ↔ waitsP s x := by
  cases h : waitsAt s x 70 with
  | none => simp only [Option.isSome_none, Bool.false_eq_true, false_iff]; rintro ⟨i, hi, hq⟩; exact waitsAt_none' h i hi hq
  | some i => simp only [Option.isSome_some, true_iff]; exact ⟨i, waitsAt_some h⟩
def stepG (s : Nat → Lk) (x : Int) : Nat → Lk := if (waitsAt s x 70).isSome = true then s else giveS s x
def turn (s : Nat → Lk) : Nat → Nat → Lk
  | 0 => s
  | k + 1 => stepG (turn s k) k
def turns (s : Nat → Lk) (n : Nat) : Nat → Nat → Lk
  | 0 => s
  | r + 1 => turn (turns s n r) n
theorem ok_step {s : Nat → Lk} {n : Int} (h : Ok s n) (x : Int) : Ok (stepG s x) n := by
  unfold stepG; split
  · exact h
  · exact ok_give h x
theorem ok_turn {s : Nat → Lk} {n : Int} (h : Ok s n) : ∀ k, Ok (turn s k) n
  | 0 => h
  | k + 1 => ok_step (ok_turn h k) k
theorem ok_turns {s : Nat → Lk} {n : Nat} (h : Ok s n) : ∀ r, Ok (turns s n r) n
  | 0 => h
  | r + 1 => ok_turn (ok_turns h r) n
theorem step_waits {s : Nat → Lk} {x y : Int} (h : waitsP (stepG s x) y) : waitsP s y := by
  unfold stepG at h
  split at h
  · exact h
  · obtain ⟨i, hi, hq⟩ := h; exact ⟨i, hi, (give_q hi hq).1⟩
theorem step_active {s : Nat → Lk} {x y : Int} (hy : 0 ≤ y) (h : waitsP (stepG s x) y ∨ holdsP (stepG s x) y) : waitsP s y ∨ holdsP s y := by
  rcases h with h | h
  · exact .inl (step_waits h)
  · unfold stepG at h
    split at h
    · exact .inr h
    · obtain ⟨i, hi, hh⟩ := h
      rcases (give_h hi hy hh).2 with h1 | h1 | h1
      · exact .inr ⟨i, hi, h1⟩
      · exact .inl ⟨i, hi, h1.1⟩
      · exact .inl ⟨i, hi, h1⟩
theorem step_holds {s : Nat → Lk} {x y : Int} (hy : 0 ≤ y) (hne : y ≠ x) (h : holdsP s y) : holdsP (stepG s x) y := by
  unfold stepG
  split
  · exact h
  · obtain ⟨i, hi, hh⟩ := h
    rcases give_cases s x i hi with ⟨f, r, h1, h2, h3⟩ | ⟨_, _, h3⟩ | ⟨_, h2, h3⟩
    · omega
    · exact ⟨i, hi, by rw [h3]; exact hh⟩
    · omega
theorem step_gone {s : Nat → Lk} {x : Int} (h0 : 0 ≤ x) (hw : ¬ waitsP s x) : ¬ (waitsP (stepG s x) x ∨ holdsP (stepG s x) x) := by
  unfold stepG
  rw [if_neg (fun h => hw (waits_iff.1 h))]
  rintro (⟨i, hi, hq⟩ | ⟨i, hi, hh⟩)
  · exact (give_q hi hq).2 rfl
  · exact (give_h hi h0 hh).1 rfl
theorem turn_waits {s : Nat → Lk} {y : Int} : ∀ k, waitsP (turn s k) y → waitsP s y
  | 0, h => h
  | k + 1, h => turn_waits k (step_waits h)
theorem turn_active {s : Nat → Lk} {y : Int} (hy : 0 ≤ y) : ∀ k, (waitsP (turn s k) y ∨ holdsP (turn s k) y) → waitsP s y ∨ holdsP s y
  | 0, h => h
  | k + 1, h => turn_active hy k (step_active hy h)
theorem turn_holds {s : Nat → Lk} {y : Nat} (h : holdsP s y) : ∀ k, k ≤ y → holdsP (turn s k) y
  | 0, _ => h
  | k + 1, hk => step_holds (by omega) (by omega) (turn_holds h k (by omega))
theorem turn_gone {s : Nat → Lk} {y : Nat} (hw : ¬ waitsP s y) : ∀ k, y < k → ¬ (waitsP (turn s k) y ∨ holdsP (turn s k) y)
  | 0, h => by omega
  | k + 1, h => by
    by_cases e : y = k
    · subst e
      exact step_gone (by omega) (fun hh => hw (turn_waits y hh))
    · exact fun hh => turn_gone hw k (by omega) (step_active (by omega) hh)
open Classical in
/-- How many hold or wait for something. -/
noncomputable def busy (s : Nat → Lk) (n : Nat) : Nat := ((List.range n).filter fun (y : Nat) => decide (waitsP s y ∨ holdsP s y)).length
theorem busy_le (s : Nat → Lk) (n : Nat) : busy s n ≤ n := by unfold busy; exact Nat.le_trans (List.length_filter_le _ _) (by simp)
theorem filter_less {p q : Nat → Bool} (l : List Nat) (h : ∀ x ∈ l, q x = true → p x = true) (hx : ∃ x ∈ l, p x = true ∧ q x = false) : (l.filter q).length < (l.filter p).length := by
  induction l with
  | nil => obtain ⟨x, hx, _⟩ := hx; cases hx
  | cons a l ih =>
    have hle : ∀ l : List Nat, (∀ x ∈ l, q x = true → p x = true) → (l.filter q).length ≤ (l.filter p).length := by
      intro l hl
      rw [← List.countP_eq_length_filter, ← List.countP_eq_length_filter]
      exact List.countP_mono_left hl
    have h' : ∀ x ∈ l, q x = true → p x = true := fun x hx => h x (List.mem_cons_of_mem _ hx)
    obtain ⟨x, hxm, hp, hq⟩ := hx
    rcases List.mem_cons.1 hxm with rfl | hxl
    · rw [List.filter_cons_of_pos hp, List.filter_cons_of_neg (by simp [hq])]
      have := hle l h'
      simp; omega
    · have := ih h' ⟨x, hxl, hp, hq⟩
      by_cases ha : q a = true
      · rw [List.filter_cons_of_pos ha, List.filter_cons_of_pos (h a List.mem_cons_self ha)]
        simp; omega
      · rw [List.filter_cons_of_neg ha]
        by_cases hb : p a = true
        · rw [List.filter_cons_of_pos hb]; simp; omega
        · rw [List.filter_cons_of_neg hb]; exact this
open Classical in
theorem turn_less {s : Nat → Lk} {n : Nat} (h : Ok s n) (hw : ∃ y : Nat, y < n ∧ waitsP s y) : busy (turn s n) n < busy s n := by
  obtain ⟨y0, hy0, hw0⟩ := hw
  obtain ⟨y, hy, h1, h2⟩ := (ok_sound h).g ⟨y0, hy0, waits_iff.2 hw0⟩
  have hnw : ¬ waitsP s y := fun hh => by rw [waits_iff.2 hh] at h1; cases h1
  obtain ⟨z, hz⟩ := List.exists_mem_of_ne_nil _ h2
  obtain ⟨i, hi, hh, _⟩ := heldL_mem.1 hz
  unfold busy
  refine filter_less _ (fun x hx hq => ?_) ⟨y, List.mem_range.2 hy, ?_, ?_⟩
  · rw [decide_eq_true_eq] at hq ⊢
    exact turn_active (by omega) n hq
  · rw [decide_eq_true_eq]; exact .inr ⟨i, hi, hh⟩
  · rw [decide_eq_false_iff_not]; exact turn_gone hnw n hy
theorem turns_less {s : Nat → Lk} {n : Nat} (h : Ok s n) : ∀ r, (∃ y : Nat, y < n ∧ waitsP (turns s n r) y) → busy (turns s n r) n + r ≤ busy s n
  | 0, _ => by simp [turns]
  | r + 1, ⟨y, hy, hw⟩ => by
    have hw' : waitsP (turns s n r) y := turn_waits n hw
    have h1 := turns_less h r ⟨y, hy, hw'⟩
    have h2 := turn_less (ok_turns h r) ⟨y, hy, hw'⟩
    show busy (turn (turns s n r) n) n + (r + 1) ≤ busy s n
    omega
/-- ALL COME. -/
theorem all_come {s : Nat → Lk} {n : Nat} (h : Ok s n) (y : Nat) (hy : y < n) : waitsAt (turns s n (n + 1)) y 70 = none := by
  cases hw : waitsAt (turns s n (n + 1)) y 70 with
  | none => rfl
  | some i =>
    have h1 := turns_less h (n + 1) ⟨y, hy, waits_iff.1 (by rw [hw]; rfl)⟩
    have h2 := busy_le s n
    omega

end Go.Proofs.Ytdjncbfoecoedaa
