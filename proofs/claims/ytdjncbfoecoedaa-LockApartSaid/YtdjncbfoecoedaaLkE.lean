/-
  LOCKS: what changes in a table.
-/
import Derived.Test.YtdjncbfoecoedaaLkD
namespace Go.Proofs.Ytdjncbfoecoedaa
open Go.RowKit Go.Shelf
set_option linter.unusedVariables false

def updF {α : Type} (f : Nat → α) (k : Nat) (x : α) : Nat → α := fun i => if i = k then x else f i
theorem updF_same {α : Type} (f : Nat → α) (k : Nat) (x : α) : updF f k x k = x := by unfold updF; rw [if_pos rfl]
theorem updF_ne {α : Type} (f : Nat → α) {k i : Nat} (x : α) (h : i ≠ k) : updF f k x i = f i := by unfold updF; rw [if_neg h]
/-- The block of a slice. -/
def QB (o : Option Addr) (k : Nat) : Prop := ∃ p, o = some p ∧ p.block = k
theorem Qu.upo {O : Nat → Prop} {W W' : World} {a : Option Addr} {c : Nat} {xs : List Int} (h : Qu W a c xs) (k : UpO O W W') (hn : ∀ p, a = some p → ¬ O p.block) : Qu W' a c xs := by
  rcases h with h | ⟨b, off, rfl, hb, h1, h2, h3, h4, h5⟩
  · exact .inl h
  · have hbt := hn ⟨b, off, none⟩ rfl
    have hsame : ∀ j, W'.cell? ⟨b, j, none⟩ = W.cell? ⟨b, j, none⟩ := fun j => World.cell?_of_block (w := W) (a := ⟨b, j, none⟩) (k.block b hb hbt)
    have hfr : ∀ j, W'.frozen? ⟨b, j, none⟩ = W.frozen? ⟨b, j, none⟩ := fun j => World.frozen?_of_block (w := W) (a := ⟨b, j, none⟩) (k.block b hb hbt)
    exact .inr ⟨b, off, rfl, Nat.lt_of_lt_of_le hb k.size, h1, h2, fun j hj => by rw [hsame]; exact h3 j hj, fun j => by rw [hfr]; exact h4 j, fun j hj => by rw [hsame]; exact h5 j hj⟩
theorem Qu.setFar {W : World} {a : Option Addr} {c : Nat} {xs : List Int} (h : Qu W a c xs) (t j : Nat) (v : Value) (hn : ∀ p, a = some p → p.block ≠ t) : Qu (W.setCell ⟨t, j, none⟩ v) a c xs :=
  h.upx ((Up.refl t W).set j v) hn
/-- What stands of a table after one call, from the one before on. -/
structure Moved (w : World) (t : Nat) (n : Int) (a : Nat → Option Addr) (s' : Nat → Lk) (a' : Nat → Option Addr) (c' : Nat → Nat) (w' : World) : Prop where
  tt : TAt w' t n s' a' c'
  u : UpO (Own t a) w w'
  o : ∀ k, Own t a' k → Own t a k ∨ w.heap.size ≤ k
def StepT (w : World) (t : Nat) (n : Int) (a : Nat → Option Addr) (s' : Nat → Lk) (v : Value) (e : Ending) (w' : World) : Prop :=
  e = .returned v ∧ ∃ a' c', Moved w t n a s' a' c' w'
theorem Moved.nw {w w' : World} {t : Nat} {n : Int} {s : Nat → Lk} {a : Nat → Option Addr} {c : Nat → Nat} (h : TAt w t n s a c) (k : Nw w w') : Moved w t n a s a c w' := ⟨h.nw k, .of_nw k, fun _ hx => .inl hx⟩
theorem Moved.then {w w1 w2 : World} {t : Nat} {n : Int} {s1 s2 : Nat → Lk} {a a1 a2 : Nat → Option Addr} {c1 c2 : Nat → Nat} (h : Moved w t n a s1 a1 c1 w1) (k : Moved w1 t n a1 s2 a2 c2 w2) : Moved w t n a s2 a2 c2 w2 :=
  ⟨k.tt, h.u.trans k.u h.o, fun x hx => by
    rcases k.o x hx with h1 | h1
    · exact h.o x h1
    · exact .inr (Nat.le_trans h.u.size h1)⟩
theorem Moved.nw2 {w w1 w2 : World} {t : Nat} {n : Int} {s1 : Nat → Lk} {a a1 : Nat → Option Addr} {c1 : Nat → Nat} (h : Moved w t n a s1 a1 c1 w1) (k : Nw w1 w2) : Moved w t n a s1 a1 c1 w2 := h.then (.nw h.tt k)
theorem Moved.below {w w' : World} {t : Nat} {n : Int} {s : Nat → Lk} {a : Nat → Option Addr} {c : Nat → Nat} {s' : Nat → Lk} {a' : Nat → Option Addr} {c' : Nat → Nat} (h : Moved w t n a s' a' c' w') {B : Nat} (hB : B ≤ w.heap.size) (ho : ∀ k, Own t a k → B ≤ k) :
    (∀ k, Own t a' k → B ≤ k) ∧ ∀ w0, Below B w0 w → Below B w0 w' :=
  ⟨fun k hk => (h.o k hk).elim (ho k) (fun h => Nat.le_trans hB h), fun w0 hb => h.u.below hb hB ho⟩
theorem TAt.ho {W : World} {t : Nat} {n : Int} {s : Nat → Lk} {a : Nat → Option Addr} {c : Nat → Nat} (h : TAt W t n s a c) (i : Nat) (hi : i < 70) (v : Int) :
    Moved W t n a (updF s i ⟨v, (s i).q⟩) a c (W.setCell ⟨t, 1 + i * 2, none⟩ (.int .i64 v)) := by
  refine ⟨⟨?_, fun j hj => ?_, fun j hj => ?_, fun j hj => ?_, h.ne, h.d, fun j => by rw [World.frozen?_setCell]; exact h.fr j⟩, .of_up ((Up.refl t W).set _ _) (.inl rfl), fun k hk => .inl hk⟩
  · exact cell_set W t _ _ _ _ h.w _ (by rw [if_neg (by omega)])
  · refine cell_set W t _ _ _ _ (h.h j hj) _ ?_
    by_cases e : j = i
    · subst e; rw [if_pos rfl, updF_same]
    · rw [if_neg (by omega), updF_ne _ _ e]
  · refine cell_set W t _ _ _ _ (h.q j hj) _ ?_
    rw [if_neg (by omega)]
    by_cases e : j = i
    · subst e; rw [updF_same]
    · rw [updF_ne _ _ e]
  · have := (h.u j hj).setFar t (1 + i * 2) (.int .i64 v) (h.ne j hj)
    by_cases e : j = i
    · subst e; rw [updF_same]; exact this
    · rw [updF_ne _ _ e]; exact this
theorem TAt.mid {W W1 : World} {t : Nat} {n : Int} {s : Nat → Lk} {a : Nat → Option Addr} {c : Nat → Nat} (h : TAt W t n s a c) {i : Nat} (hi : i < 70) (hu : UpO (QB (a i)) W W1) :
    ¬ QB (a i) t ∧ (∀ j, W1.cell? ⟨t, j, none⟩ = W.cell? ⟨t, j, none⟩) ∧ (∀ j, W1.frozen? ⟨t, j, none⟩ = W.frozen? ⟨t, j, none⟩) := by
  have hn : ¬ QB (a i) t := fun ⟨p, hp, e⟩ => h.ne i hi p hp e
  exact ⟨hn, fun j => World.cell?_of_block (w := W) (a := ⟨t, j, none⟩) (hu.block t h.lt hn), fun j => World.frozen?_of_block (w := W) (a := ⟨t, j, none⟩) (hu.block t h.lt hn)⟩
/-- A queue is turned, in its own block or in a new one, and stored. -/
theorem TAt.setQ {W W1 : World} {t : Nat} {n : Int} {s : Nat → Lk} {a : Nat → Option Addr} {c : Nat → Nat} (h : TAt W t n s a c) (i : Nat) (hi : i < 70) (a1 : Option Addr) (c1 : Nat) (q1 : List Int) (hu : UpO (QB (a i)) W W1) (hq : Qu W1 a1 c1 q1)
    (hf : ∀ p, a1 = some p → QB (a i) p.block ∨ W.heap.size ≤ p.block) :
    Moved W t n a (updF s i ⟨(s i).h, q1⟩) (updF a i a1) (updF c i c1) (W1.setCell ⟨t, 1 + i * 2 + 1, none⟩ (.slice a1 q1.length c1)) := by
  obtain ⟨hn, hc, hfr⟩ := h.mid hi hu
  have hsz := hu.size
  have hnew : ∀ p, a1 = some p → p.block ≠ t := by
    intro p hp e
    rcases hf p hp with h1 | h1
    · exact hn (e ▸ h1)
    · have := h.lt; omega
  have hoth : ∀ j, j < 70 → j ≠ i → ∀ p p', a1 = some p → a j = some p' → p.block ≠ p'.block := by
    intro j hj hji p p' hp hp' e
    rcases hf p hp with ⟨p0, h0, e0⟩ | h1
    · exact h.d i j hi hj (Ne.symm hji) p0 p' h0 hp' (e0.trans e)
    · have := (h.u j hj).lt p' hp'; omega
  refine ⟨⟨?_, fun j hj => ?_, fun j hj => ?_, fun j hj => ?_, fun j hj p hp => ?_, fun j k hj hk hjk p p' hp hp' => ?_, fun j => by rw [World.frozen?_setCell, hfr]; exact h.fr j⟩, ?_, fun k hk => ?_⟩
  · exact cell_set W1 t _ _ _ _ ((hc _).trans h.w) _ (by rw [if_neg (by omega)])
  · refine cell_set W1 t _ _ _ _ ((hc _).trans (h.h j hj)) _ ?_
    rw [if_neg (by omega)]
    by_cases e : j = i
    · subst e; rw [updF_same]
    · rw [updF_ne _ _ e]
  · refine cell_set W1 t _ _ _ _ ((hc _).trans (h.q j hj)) _ ?_
    by_cases e : j = i
    · subst e; rw [if_pos rfl, updF_same, updF_same, updF_same]
    · rw [if_neg (by omega), updF_ne _ _ e, updF_ne _ _ e, updF_ne _ _ e]
  · by_cases e : j = i
    · subst e; rw [updF_same, updF_same, updF_same]; exact hq.setFar _ _ _ hnew
    · rw [updF_ne _ _ e, updF_ne _ _ e, updF_ne _ _ e]
      exact ((h.u j hj).upo hu (fun p hp ⟨p0, h0, e0⟩ => h.d i j hi hj (Ne.symm e) p0 p h0 hp e0)).setFar _ _ _ (h.ne j hj)
  · by_cases e : j = i
    · subst e; rw [updF_same] at hp; exact hnew p hp
    · rw [updF_ne _ _ e] at hp; exact h.ne j hj p hp
  · by_cases e : j = i
    · subst e
      rw [updF_same] at hp
      rw [updF_ne _ _ (Ne.symm hjk)] at hp'
      exact hoth k hk (Ne.symm hjk) p p' hp hp'
    · rw [updF_ne _ _ e] at hp
      by_cases e2 : k = i
      · subst e2
        rw [updF_same] at hp'
        exact fun h1 => hoth j hj e p' p hp' hp h1.symm
      · rw [updF_ne _ _ e2] at hp'
        exact h.d j k hj hk hjk p p' hp hp'
  · refine UpO.trans (O' := fun k => k = t) (⟨hu.os, hu.tape, hu.output, hu.size, fun k hk ho => hu.block k hk (fun ⟨p, hp, e⟩ => ho (.inr ⟨i, hi, p, hp, e⟩))⟩ : UpO (Own t a) W W1) (.of_up ((Up.refl t W1).set _ _) rfl) (fun x hx => .inl (.inl hx))
  · rcases hk with rfl | ⟨j, hj, p, hp, e⟩
    · exact .inl (.inl rfl)
    · by_cases e2 : j = i
      · subst e2
        rw [updF_same] at hp
        rcases hf p hp with ⟨p0, h0, e0⟩ | h1
        · exact .inl (.inr ⟨j, hj, p0, h0, e0.trans e⟩)
        · exact .inr (e ▸ h1)
      · rw [updF_ne _ _ e2] at hp
        exact .inl (.inr ⟨j, hj, p, hp, e⟩)

/-- One more in a queue: whatever way it goes. -/
theorem wpList_append_qu {P : Program} (w : World) {ops : Array Oper} {rest : List Oper} {o : Oper} {a : Act} {Q : Exit → Act → World → Prop}
    (hg : o.guard = none) (s x : Operand) (t : TypeId) (hop : o.op = Op.call { callee := Callee.builtin Builtin.append, args := #[s, x], argTypes := #[t, t] })
    (e : TypeId) (i : TypeInfo) (h1 : P.underlying t = some (.slice e)) (h2 : P.info? e = some i) (h3 : i.zero = some (.int .i64 0)) (h4 : i.size = 1) (h5 : i.bytes = 8)
    (a0 : Option Addr) (c0 : Nat) (xs : List Int) (hs : a.eval s = .slice a0 xs.length c0) (hq : Qu w a0 c0 xs) (hlen : xs.length ≤ 1000000)
    (ad : Addr) (c : Nat) (y : Int) (hx : a.eval x = .slice (some ad) 1 c) (hc : w.cell? ad = some (.int .i64 y))
    (hK : ∀ a1 c1 w', Qu w' a1 c1 (xs ++ [y]) → UpO (QB a0) w w' → (∀ p, a1 = some p → QB a0 p.block ∨ w.heap.size ≤ p.block) → wpList P ops Q rest (a.put o.dst (.slice a1 (xs ++ [y]).length c1)) w') :
    wpList P ops Q (o :: rest) a w := by
  have hnew : ∀ j u, [Value.int .i64 y][j]? = some u → w.cell? (ad.add j) = some u := by
    intro j u hj
    cases j with
    | zero => simp at hj; subst hj; simpa [Addr.add] using hc
    | succ j => simp at hj
  have grown : ∀ v' w', w'.ownsRow w.heap.size e 1 v' (xs.length + 1) (xs.map (.int .i64) ++ [.int .i64 y]) → w.grownBy w' none → wpList P ops Q rest (a.put o.dst v') w' := by
    intro v' w' ho hgr
    have ho' : w'.ownsRow w.heap.size e 1 v' (xs ++ [y]).length ((xs ++ [y]).map (.int .i64)) := by simpa using ho
    have hN : Nw w w' := ⟨Below.of_grown hgr⟩
    rcases ho'.2 with ⟨_, h0⟩ | ⟨g, cap, cur, rfl, hg, hh, hn, hm, hcs, hcur⟩
    · simp at h0
    · refine hK (some ⟨g, 0, none⟩) cap w' (.inr ⟨g, 0, rfl, (Array.getElem?_eq_some_iff.1 hh).1, hn, hm, fun j hj => ?_, fun j => by simp [World.frozen?, hh], fun j hj => ?_⟩) (.of_nw hN) (fun p hp => by cases hp; exact .inr hg)
      · simp [World.cell?, hh, hcs, hj]
      · rw [Nat.zero_add, own_cell ho' hj, List.getElem?_eq_getElem hj]; rfl
  rcases hq with ⟨rfl, rfl, rfl⟩ | ⟨b, off, rfl, hb, hle, hm, hsome, hfr, hcell⟩
  · refine wpList_append_grows w hg s x t hop e i _ 1 8 h1 h2 h3 h4 h5 rfl (by decide) none 0 0 [] hs (fun _ => ⟨rfl, rfl⟩) rfl (fun b hb => by cases hb) ad 1 c [.int .i64 y] hx rfl hnew (by simp [Value.oneCell']) (by decide) (by decide) (by decide) (fun v' w' ho hgr => grown v' w' ?_ hgr)
    simpa using ho
  · refine wpList_append_arg w hg s x t hop e i _ 1 8 h1 h2 h3 h4 h5 rfl (by decide) b off xs.length c0 (xs.map (.int .i64)) hs (by simp) ?_ ad 1 c [.int .i64 y] hx rfl hnew (by simp [Value.oneCell']) ?_ (by unfold maxLen; omega) (by omega) ?_ (fun hlt v' w' ho hgr => grown v' w' ho hgr)
    · intro j u hj
      simp at hj
      obtain ⟨z, hz, rfl⟩ := hj
      obtain ⟨hj', rfl⟩ := List.getElem?_eq_some_iff.1 hz
      exact hcell j hj'
    · intro hr j hj
      simp at hj
      subst hj
      exact ⟨by rw [Nat.mul_one, Nat.add_zero]; exact hsome _ (by omega), hfr _⟩
    · intro hr
      have hw : w.setCells b (off + xs.length * 1) [.int .i64 y] = w.setCell ⟨b, off + xs.length, none⟩ (.int .i64 y) := by simp [World.setCells]
      rw [hw]
      have hl : (xs ++ [y]).length = xs.length + 1 := by simp
      have := hK (some ⟨b, off, none⟩) c0 (w.setCell ⟨b, off + xs.length, none⟩ (.int .i64 y)) (.inr ⟨b, off, rfl, by simp [World.setCell]; exact hb, by omega, hm, fun j hj => ?_, fun j => by rw [World.frozen?_setCell]; exact hfr j, fun j hj => ?_⟩)
        (.of_up ((Up.refl b w).set _ _) ⟨_, rfl, rfl⟩) (fun p hp => by cases hp; exact .inl ⟨_, rfl, rfl⟩)
      · rw [hl] at this; exact this
      · by_cases e : j = xs.length
        · subst e; rw [World.cell?_setCell_same' _ _ _ (hsome _ hj)]; rfl
        · rw [World.cell?_setCell_other w ⟨b, off + xs.length, none⟩ ⟨b, off + j, none⟩ _ (fun h => e (by simpa using h.symm))]; exact hsome j hj
      · by_cases e : j = xs.length
        · subst e; rw [World.cell?_setCell_same' _ _ _ (hsome _ (by omega))]; simp
        · have hj' : j < xs.length := by omega
          rw [World.cell?_setCell_other w ⟨b, off + xs.length, none⟩ ⟨b, off + j, none⟩ _ (fun h => e (by simpa using h.symm)), hcell j hj', List.getElem_append_left hj']

end Go.Proofs.Ytdjncbfoecoedaa
