/-
  LOCKS: workers apart: the plain law; four rows beside a table.
-/
import Derived.Test.YtdjncbfoecoedaaLkU
namespace Go.Proofs.Ytdjncbfoecoedaa
open Go.RowKit Go.Shelf
set_option linter.unusedVariables false

theorem sorted_eq : ∀ (l1 l2 : List Int), l1.Pairwise (· < ·) → l2.Pairwise (· < ·) → (∀ x, x ∈ l1 ↔ x ∈ l2) → l1 = l2
  | [], [], _, _, _ => rfl
  | [], b :: l2, _, _, h => by have := (h b).2 List.mem_cons_self; cases this
  | a :: l1, [], _, _, h => by have := (h a).1 List.mem_cons_self; cases this
  | a :: l1, b :: l2, h1, h2, h => by
    obtain ⟨ha, h1'⟩ := List.pairwise_cons.1 h1
    obtain ⟨hb, h2'⟩ := List.pairwise_cons.1 h2
    have hab : a = b := by
      rcases List.mem_cons.1 ((h a).1 List.mem_cons_self) with e | e
      · exact e
      · rcases List.mem_cons.1 ((h b).2 List.mem_cons_self) with e' | e'
        · exact e'.symm
        · have := hb a e; have := ha b e'; omega
    subst hab
    rw [sorted_eq l1 l2 h1' h2' (fun x => ⟨fun hx => by
      rcases List.mem_cons.1 ((h x).1 (List.mem_cons_of_mem _ hx)) with e | e
      · have := ha x hx; omega
      · exact e, fun hx => by
      rcases List.mem_cons.1 ((h x).2 (List.mem_cons_of_mem _ hx)) with e | e
      · have := hb x hx; omega
      · exact e⟩)]
/-- What each of four workers holds: rising, and of its own kind. -/
structure HOk (H : Nat → List Int) : Prop where
  s : ∀ m, m < 4 → (H m).Pairwise (· < ·)
  e : ∀ m, m < 4 → ∀ y ∈ H m, ∃ i : Nat, y = i ∧ i < 70 ∧ i % 4 = m
def apartS (H : Nat → List Int) : Nat → Lk := fun i => if i < 70 ∧ (i : Int) ∈ H (i % 4) then ⟨((i % 4 : Nat) : Int) + 1, []⟩ else freeLk
theorem apart_q (H : Nat → List Int) (i : Nat) : (apartS H i).q = [] := by unfold apartS; split <;> rfl
theorem apart_nil : apartS (fun _ => []) = fun _ => freeLk := by funext i; unfold apartS; rw [if_neg (by simp)]
theorem hok_nil : HOk (fun _ => []) := ⟨fun _ _ => List.Pairwise.nil, fun _ _ y hy => by cases hy⟩
theorem apart_held {H : Nat → List Int} (h : HOk H) {m : Nat} (hm : m < 4) : heldL (apartS H) m 70 = H m := by
  refine sorted_eq _ _ (heldL_sorted _ _ _) (h.s m hm) (fun y => ?_)
  rw [heldL_mem]
  constructor
  · rintro ⟨i, hi, hh, rfl⟩
    unfold apartS at hh
    split at hh
    · rename_i hc
      dsimp only at hh
      have : i % 4 = m := by omega
      rw [← this]; exact hc.2
    · simp only [freeLk] at hh; omega
  · intro hy
    obtain ⟨i, rfl, hi, him⟩ := h.e m hm y hy
    exact ⟨i, hi, by unfold apartS; rw [if_pos ⟨hi, him.symm ▸ hy⟩, him], rfl⟩
theorem apart_waits (H : Nat → List Int) (x : Int) : waitsAt (apartS H) x 70 = none := by
  rw [waitsAt_none]
  intro i _ hx
  rw [apart_q] at hx; cases hx
theorem hok_push {H : Nat → List Int} (h : HOk H) {k : Nat} (hk : k < 70) (hb : ∀ y ∈ H (k % 4), y < (k : Int)) : HOk (updF H (k % 4) (H (k % 4) ++ [(k : Int)])) := by
  refine ⟨fun m hm => ?_, fun m hm y hy => ?_⟩
  · rw [updF_at]
    split
    · rename_i e
      exact List.pairwise_append.2 ⟨h.s _ (by omega), List.pairwise_singleton _ _, fun a ha b hb' => by rw [List.mem_singleton.1 hb']; exact hb a ha⟩
    · exact h.s m hm
  · rw [updF_at] at hy
    split at hy
    · rename_i e
      rcases List.mem_append.1 hy with hy | hy
      · rw [e]; exact h.e _ (by omega) y hy
      · exact ⟨k, List.mem_singleton.1 hy, hk, e.symm⟩
    · exact h.e m hm y hy
theorem apart_push (H : Nat → List Int) {k : Nat} (hk : k < 70) : updF (apartS H) k ⟨((k % 4 : Nat) : Int) + 1, []⟩ = apartS (updF H (k % 4) (H (k % 4) ++ [(k : Int)])) := by
  funext i
  rw [updF_at]
  unfold apartS
  by_cases e : i = k
  · subst e
    rw [if_pos rfl, if_pos ⟨hk, by rw [updF_same]; simp⟩]
  · rw [if_neg e]
    have : (i : Int) ∈ updF H (k % 4) (H (k % 4) ++ [(k : Int)]) (i % 4) ↔ (i : Int) ∈ H (i % 4) := by
      rw [updF_at]
      split
      · rename_i e2
        rw [e2, List.mem_append, List.mem_singleton]
        exact ⟨fun h => h.resolve_right (by omega), .inl⟩
      · exact Iff.rfl
    simp only [this]
/-- Is the last one not below k? -/
theorem apart_no {H : Nat → List Int} (h : HOk H) {k : Nat} (hk : k < 70) (hy : ∃ y ∈ H (k % 4), (k : Int) ≤ y) : wantS (apartS H) ((k % 4 : Nat) : Int) k = (apartS H, false, 1) := by
  unfold wantS
  rw [if_neg (by omega), apart_held h (by omega), if_pos]
  obtain ⟨y, hy, hky⟩ := hy
  exact List.any_eq_true.2 ⟨y, hy, by simpa [geB] using hky⟩
theorem apart_yes {H : Nat → List Int} (h : HOk H) {k : Nat} (hk : k < 70) (hb : ∀ y ∈ H (k % 4), y < (k : Int)) : wantS (apartS H) ((k % 4 : Nat) : Int) k = (apartS (updF H (k % 4) (H (k % 4) ++ [(k : Int)])), true, 0) := by
  unfold wantS
  have hf : apartS H k = freeLk := by
    unfold apartS
    rw [if_neg]
    rintro ⟨_, hh⟩
    have := hb _ hh; omega
  rw [if_neg (by omega), apart_held h (by omega), if_neg, apart_waits, if_neg (by simp)]
  · rw [show ((k : Int)).toNat = k by omega, hf, if_neg (by simp [freeLk])]
    rw [← apart_push H hk]; rfl
  · rw [List.any_eq_true]
    rintro ⟨y, hy, hg⟩
    have := hb y hy
    simp [geB] at hg; omega
theorem last_ge {l : List Int} (h : l.Pairwise (· < ·)) {n : Nat} (hn : l.length = n + 1) {y : Int} (hy : y ∈ l) : y ≤ l[n]'(by omega) := by
  obtain ⟨j, hj, rfl⟩ := List.getElem_of_mem hy
  by_cases e : j = n
  · subst e; exact Int.le_refl _
  · exact Int.le_of_lt ((List.pairwise_iff_getElem.1 h) j n hj (by omega) (by omega))
theorem hok_give {H : Nat → List Int} (h : HOk H) (x : Nat) : HOk (updF H x []) := by
  refine ⟨fun m hm => ?_, fun m hm y hy => ?_⟩
  · rw [updF_at]; split
    · exact List.Pairwise.nil
    · exact h.s m hm
  · rw [updF_at] at hy; split at hy
    · cases hy
    · exact h.e m hm y hy
theorem apart_give {H : Nat → List Int} {x : Nat} (hx : x < 4) : giveS (apartS H) x = apartS (updF H x []) ∧ giveO (apartS H) x = [] := by
  have hin : ∀ (H : Nat → List Int) (i : Nat), i < 70 → (i : Int) ∈ H (i % 4) → apartS H i = ⟨((i % 4 : Nat) : Int) + 1, []⟩ := fun H i h1 h2 => if_pos ⟨h1, h2⟩
  have hout : ∀ (H : Nat → List Int) (i : Nat), ¬ (i < 70 ∧ (i : Int) ∈ H (i % 4)) → apartS H i = freeLk := fun H i h => if_neg h
  have hr : relTo (apartS H) x 70 = apartS (updF H x []) := by
    funext i
    unfold relTo
    by_cases hi : i < 70
    · rw [if_pos hi]
      by_cases hm : (i : Int) ∈ H (i % 4)
      · rw [hin H i hi hm]
        by_cases e : i % 4 = x
        · rw [hout (updF H x []) i (by rw [e, updF_same]; simp), relK, if_pos (by rw [beq_iff_eq]; dsimp only; omega)]
          rfl
        · rw [hin (updF H x []) i hi (by rw [updF_ne _ _ e]; exact hm), relK, if_neg (by rw [beq_iff_eq]; dsimp only; omega)]
          rfl
      · rw [hout H i (fun hh => hm hh.2), hout (updF H x []) i]
        · simp [relK, freeLk, lessL]
        · rintro ⟨_, hh⟩
          rw [updF_at] at hh
          split at hh
          · cases hh
          · exact hm hh
    · rw [if_neg hi, hout H i (fun hh => hi hh.1), hout (updF H x []) i (fun hh => hi hh.1)]
  have hl : looseL 70 (rdyB (apartS (updF H x []))) 70 = [] := by
    refine List.eq_nil_iff_forall_not_mem.2 fun y hy => ?_
    have := (looseL_mem (fl := rdyB (apartS (updF H x []))) y).1 hy
    unfold rdyB at this
    rw [apart_q] at this
    simp at this
  unfold giveS giveO
  rw [hr, hl]
  exact ⟨rfl, rfl⟩

/-- Four rows beside a table. -/
structure FI (w : World) (t g : Nat) (s : Nat → Lk) (H : Nat → List Int) (W : World) (a : Nat → Option Addr) (c : Nat → Nat) (b : Nat → Option Addr) (cc : Nat → Nat) : Prop where
  n : Nw w W
  tt : TAt W t 4 s a c
  o : ∀ x, Own t a x → w.heap.size ≤ x
  ar : ∀ m, m < 4 → W.cell? ⟨g, m, none⟩ = some (.slice (b m) (H m).length (cc m))
  fr : ∀ j, W.frozen? ⟨g, j, none⟩ = false
  gw : w.heap.size ≤ g
  gn : ¬ Own t a g
  q : ∀ m, m < 4 → Qu W (b m) (cc m) (H m)
  qb : ∀ m, m < 4 → ∀ p, b m = some p → w.heap.size ≤ p.block ∧ ¬ Own t a p.block ∧ p.block ≠ g
  qd : ∀ m m', m < 4 → m' < 4 → m ≠ m' → ∀ p p', b m = some p → b m' = some p' → p.block ≠ p'.block
theorem FI.gl {w : World} {t g : Nat} {s : Nat → Lk} {H : Nat → List Int} {W : World} {a : Nat → Option Addr} {c : Nat → Nat} {b : Nat → Option Addr} {cc : Nat → Nat} (h : FI w t g s H W a c b cc) : g < W.heap.size := (cell_lt (h.ar 0 (by omega))).1
theorem FI.nw {w : World} {t g : Nat} {s : Nat → Lk} {H : Nat → List Int} {W W' : World} {a : Nat → Option Addr} {c : Nat → Nat} {b : Nat → Option Addr} {cc : Nat → Nat} (h : FI w t g s H W a c b cc) (k : Nw W W') : FI w t g s H W' a c b cc :=
  ⟨h.n.trans k, h.tt.nw k, h.o, fun m hm => (k.b.cell (p := ⟨g, m, none⟩) h.gl).trans (h.ar m hm), fun j => (k.b.frozen (p := ⟨g, j, none⟩) h.gl).trans (h.fr j), h.gw, h.gn, fun m hm => (h.q m hm).nw k, h.qb, h.qd⟩
theorem FI.moved {w : World} {t g : Nat} {s s' : Nat → Lk} {H : Nat → List Int} {W W' : World} {a a' : Nat → Option Addr} {c c' : Nat → Nat} {b : Nat → Option Addr} {cc : Nat → Nat} (h : FI w t g s H W a c b cc) (m : Moved W t 4 a s' a' c' W') : FI w t g s' H W' a' c' b cc :=
  ⟨⟨m.u.below h.n.b h.n.b.size h.o⟩, m.tt, fun x hx => (m.o x hx).elim (h.o x) (fun hh => Nat.le_trans h.n.b.size hh), fun i hi => m.u.cell (h.ar i hi) h.gn, fun j => (World.frozen?_of_block (w := W) (a := ⟨g, j, none⟩) (m.u.block g h.gl h.gn)).trans (h.fr j), h.gw,
    fun hx => (m.o _ hx).elim h.gn (fun hh => by have := h.gl; omega), fun i hi => (h.q i hi).upo m.u (fun p hp => (h.qb i hi p hp).2.1),
    fun i hi p hp => ⟨(h.qb i hi p hp).1, fun hx => (m.o _ hx).elim (h.qb i hi p hp).2.1 (fun hh => by have := (h.q i hi).lt p hp; omega), (h.qb i hi p hp).2.2⟩, h.qd⟩
theorem FI.mid {w : World} {t g : Nat} {s : Nat → Lk} {H : Nat → List Int} {W W1 : World} {a : Nat → Option Addr} {c : Nat → Nat} {b : Nat → Option Addr} {cc : Nat → Nat} (h : FI w t g s H W a c b cc) {i : Nat} (hi : i < 4) (hu : UpO (QB (b i)) W W1) :
    (∀ j, W1.cell? ⟨g, j, none⟩ = W.cell? ⟨g, j, none⟩) ∧ (∀ j, W1.frozen? ⟨g, j, none⟩ = W.frozen? ⟨g, j, none⟩) := by
  have hn : ¬ QB (b i) g := fun ⟨p, hp, e⟩ => (h.qb i hi p hp).2.2 e
  exact ⟨fun j => World.cell?_of_block (w := W) (a := ⟨g, j, none⟩) (hu.block g h.gl hn), fun j => World.frozen?_of_block (w := W) (a := ⟨g, j, none⟩) (hu.block g h.gl hn)⟩
theorem FI.push {w : World} {t g : Nat} {s : Nat → Lk} {H : Nat → List Int} {W W1 : World} {a : Nat → Option Addr} {c : Nat → Nat} {b : Nat → Option Addr} {cc : Nat → Nat} (h : FI w t g s H W a c b cc) (i : Nat) (hi : i < 4) (b1 : Option Addr) (c1 : Nat) (q1 : List Int) (hu : UpO (QB (b i)) W W1) (hq : Qu W1 b1 c1 q1)
    (hf : ∀ p, b1 = some p → QB (b i) p.block ∨ W.heap.size ≤ p.block) :
    FI w t g s (updF H i q1) (W1.setCell ⟨g, i, none⟩ (.slice b1 q1.length c1)) a c (updF b i b1) (updF cc i c1) := by
  obtain ⟨hc, hfr⟩ := h.mid hi hu
  have hnO : ∀ x, Own t a x → ¬ QB (b i) x := fun x hx ⟨p, hp, e⟩ => (h.qb i hi p hp).2.1 (e ▸ hx)
  have hnew : ∀ p, b1 = some p → w.heap.size ≤ p.block ∧ ¬ Own t a p.block ∧ p.block ≠ g := by
    intro p hp
    rcases hf p hp with ⟨p0, h0, e0⟩ | h1
    · rw [← e0]; exact h.qb i hi p0 h0
    · exact ⟨Nat.le_trans h.n.b.size h1, fun hx => by have := h.tt.own_lt hx; omega, by have := h.gl; omega⟩
  have hoth : ∀ j, j < 4 → j ≠ i → ∀ p p', b1 = some p → b j = some p' → p.block ≠ p'.block := by
    intro j hj hji p p' hp hp' e
    rcases hf p hp with ⟨p0, h0, e0⟩ | h1
    · exact h.qd i j hi hj (Ne.symm hji) p0 p' h0 hp' (e0.trans e)
    · have := (h.q j hj).lt p' hp'; omega
  have hset : UpO (fun k => k = g) W1 (W1.setCell ⟨g, i, none⟩ (.slice b1 q1.length c1)) := .of_up ((Up.refl g W1).set _ _) rfl
  refine ⟨?_, ?_, h.o, fun m hm => ?_, fun j => by rw [World.frozen?_setCell, hfr]; exact h.fr j, h.gw, h.gn, fun m hm => ?_, fun m hm p hp => ?_, fun m m' hm hm' hmm p p' hp hp' => ?_⟩
  · exact ⟨(hset.below (hu.below h.n.b h.n.b.size (fun x ⟨p, hp, e⟩ => e ▸ (h.qb i hi p hp).1)) (Nat.le_trans h.n.b.size hu.size) (fun x hx => hx ▸ h.gw))⟩
  · exact (h.tt.upo hu hnO).upo hset (fun x hx e => h.gn (e ▸ hx))
  · refine cell_set W1 g _ _ _ _ ((hc _).trans (h.ar m hm)) _ ?_
    by_cases e : m = i
    · subst e; rw [if_pos rfl, updF_same, updF_same, updF_same]
    · rw [if_neg e, updF_ne _ _ e, updF_ne _ _ e, updF_ne _ _ e]
  · by_cases e : m = i
    · subst e; rw [updF_same, updF_same, updF_same]; exact hq.setFar _ _ _ (fun p hp => (hnew p hp).2.2)
    · rw [updF_ne _ _ e, updF_ne _ _ e, updF_ne _ _ e]
      exact ((h.q m hm).upo hu (fun p hp ⟨p0, h0, e0⟩ => h.qd i m hi hm (Ne.symm e) p0 p h0 hp e0)).setFar _ _ _ (fun p hp => (h.qb m hm p hp).2.2)
  · by_cases e : m = i
    · subst e; rw [updF_same] at hp; exact hnew p hp
    · rw [updF_ne _ _ e] at hp; exact h.qb m hm p hp
  · by_cases e : m = i
    · subst e
      rw [updF_same] at hp
      rw [updF_ne _ _ (Ne.symm hmm)] at hp'
      exact hoth m' hm' (Ne.symm hmm) p p' hp hp'
    · rw [updF_ne _ _ e] at hp
      by_cases e2 : m' = i
      · subst e2
        rw [updF_same] at hp'
        exact fun h1 => hoth m hm e p' p hp' hp h1.symm
      · rw [updF_ne _ _ e2] at hp'
        exact h.qd m m' hm hm' hmm p p' hp hp'
theorem fi_new (w : World) (T T2 : TypeId) : FI w w.heap.size (w.heap.size + 1) (apartS fun _ => []) (fun _ => []) ((w.alloc (.cells (tabC 4) T)).alloc (.cells (#[.slice none 0 0, .slice none 0 0, .slice none 0 0, .slice none 0 0] : Array Value) T2)) (fun _ => none) (fun _ => 0) (fun _ => none) (fun _ => 0) := by
  have hg : ((w.alloc (.cells (tabC 4) T)).alloc (.cells (#[.slice none 0 0, .slice none 0 0, .slice none 0 0, .slice none 0 0] : Array Value) T2)).heap[w.heap.size + 1]? = some (.cells (#[.slice none 0 0, .slice none 0 0, .slice none 0 0, .slice none 0 0] : Array Value) T2 (0, 0)) := by
    have := World.alloc_heap_new (w.alloc (.cells (tabC 4) T)) (.cells (#[.slice none 0 0, .slice none 0 0, .slice none 0 0, .slice none 0 0] : Array Value) T2)
    rwa [World.size_alloc] at this
  refine ⟨(Nw.refl.alloc _).alloc _, (by rw [apart_nil]; exact tat_new w 4 T : TAt (w.alloc (.cells (tabC 4) T)) w.heap.size 4 (apartS fun _ => []) (fun _ => none) (fun _ => 0)).nw (Nw.refl.alloc _), fun x hx => ?_, fun m hm => ?_, fun j => (by simp [go_sem]), by omega, fun hx => ?_, fun m hm => .inl ⟨rfl, rfl, rfl⟩, fun m hm p hp => (by cases hp), fun m m' _ _ _ p p' hp => (by cases hp)⟩
  · rcases hx with rfl | ⟨i, _, p, hp, _⟩
    · exact Nat.le_refl _
    · cases hp
  · unfold World.cell?
    simp only [hg, Option.isSome_none, Bool.false_eq_true, if_false]
    match m, hm with
    | 0, _ => rfl
    | 1, _ => rfl
    | 2, _ => rfl
    | 3, _ => rfl
  · rcases hx with hx | ⟨i, _, p, hp, _⟩
    · omega
    · cases hp

end Go.Proofs.Ytdjncbfoecoedaa
