/-
  WHAT IS OF NO PROGRAM: blocks, their kinds; what stays when some blocks change; slices in blocks of their own.
-/
import Derived.Test.YtkopfnldgnkkoaaNw
import Derived.ArgAppend
import Derived.Lib.SliceRun
namespace Go.Proofs.Ytkopfnldgnkkoaa
open Go.RowKit Go.Shelf
set_option linter.unusedVariables false

/-- Block k holds these cells. -/
def Blk (w : World) (k : Nat) (cs : Array Value) (t : TypeId) : Prop := w.heap[k]? = some (.cells cs t (0, 0))
/-- Block k holds cells of a kind. -/
def Tag (w : World) (k : Nat) (t : TypeId) : Prop := ∃ cs, Blk w k cs t
section
variable {w : World} {k k' : Nat} {cs cs' : Array Value} {t t' : TypeId}
theorem Blk.tag (h : Blk w k cs t) : Tag w k t := ⟨cs, h⟩
theorem Blk.lt (h : Blk w k cs t) : k < w.heap.size := (Array.getElem?_eq_some_iff.1 h).1
theorem Tag.lt (h : Tag w k t) : k < w.heap.size := h.elim fun _ h => Blk.lt h
theorem Blk.cell (h : Blk w k cs t) {j : Nat} {v : Value} (hv : cs[j]? = some v) : w.cell? ⟨k, j, none⟩ = some v := (cell_of_row w k j cs t (0, 0) h).trans hv
theorem Tag.frozen (h : Tag w k t) (j : Nat) : w.frozen? ⟨k, j, none⟩ = false := h.elim fun cs h => frozen_of_row w k j cs t h
theorem Blk.frozen (h : Blk w k cs t) (j : Nat) : w.frozen? ⟨k, j, none⟩ = false := h.tag.frozen j
theorem Tag.ne (h : Tag w k t) (h' : Tag w k' t') (ht : t ≠ t') : k ≠ k' := by
  rintro rfl
  obtain ⟨c, h⟩ := h
  obtain ⟨c', h'⟩ := h'
  unfold Blk at h h'
  rw [h] at h'
  simp only [Option.some.injEq, Obj.cells.injEq] at h'
  exact ht h'.2.1
theorem Blk.same (h : Blk w k cs t) (h' : Blk w k cs' t') : cs = cs' := by
  unfold Blk at h h'
  rw [h] at h'
  simp only [Option.some.injEq, Obj.cells.injEq] at h'
  exact h'.1
theorem Blk.new (w : World) (cs : Array Value) (t : TypeId) : Blk (w.alloc (.cells cs t)) w.heap.size cs t := heap_alloc_new w _
theorem Blk.set (h : Blk w k cs t) (j : Nat) (v : Value) : Blk (w.setCell ⟨k, j, none⟩ v) k (cs.setIfInBounds j v) t := heap_setCell_same w k j cs t v h
theorem Blk.far (h : Blk w k cs t) (k' j : Nat) (v : Value) (hn : k ≠ k') : Blk (w.setCell ⟨k', j, none⟩ v) k cs t := (Below.heap_setCell w ⟨k', j, none⟩ v k hn).trans h
theorem Tag.set (h : Tag w k t) (k' j : Nat) (v : Value) : Tag (w.setCell ⟨k', j, none⟩ v) k t := by
  obtain ⟨cs, h⟩ := h
  by_cases e : k = k'
  · subst e; exact (h.set j v).tag
  · exact (h.far k' j v e).tag
theorem Blk.alloc (h : Blk w k cs t) (o : Obj) : Blk (w.alloc o) k cs t := (Below.heap_alloc w o k h.lt).trans h
theorem Blk.nw {w' : World} (h : Blk w k cs t) (n : Nw w w') : Blk w' k cs t := (n.b.block k h.lt).trans h
theorem Tag.nw {w' : World} (h : Tag w k t) (n : Nw w w') : Tag w' k t := h.elim fun _ h => (h.nw n).tag
theorem Blk.up {w' : World} {b : Nat} (h : Blk w k cs t) (n : Up b w w') (hn : k ≠ b) : Blk w' k cs t := (n.block k h.lt hn).trans h
theorem Tag.up {w' : World} {b : Nat} (h : Tag w k t) (n : Up b w w') (hn : k ≠ b) : Tag w' k t := h.elim fun _ h => (h.up n hn).tag
end

/-- Nothing but some blocks, and new memory. -/
structure UpO (O : Nat → Prop) (w w' : World) : Prop where
  os : w'.os = w.os
  tape : w'.tape = w.tape
  output : w'.output = w.output
  size : w.heap.size ≤ w'.heap.size
  block : ∀ k, k < w.heap.size → ¬ O k → w'.heap[k]? = w.heap[k]?
section
variable {O O' : Nat → Prop} {a b c : World}
theorem UpO.refl (O : Nat → Prop) (w : World) : UpO O w w := ⟨rfl, rfl, rfl, Nat.le_refl _, fun _ _ _ => rfl⟩
theorem UpO.of_up {t : Nat} (h : Up t a b) (ht : O t) : UpO O a b := ⟨h.os, h.tape, h.output, h.size, fun k hk hn => h.block k hk (fun e => hn (e ▸ ht))⟩
theorem UpO.of_nw (h : Nw a b) : UpO O a b := ⟨h.b.os, h.b.tape, h.b.output, h.b.size, fun k hk _ => h.b.block k hk⟩
/-- The second step may touch what the first one did, and what is new. -/
theorem UpO.trans (h : UpO O a b) (k : UpO O' b c) (ho : ∀ x, O' x → O x ∨ a.heap.size ≤ x) : UpO O a c :=
  ⟨k.os.trans h.os, k.tape.trans h.tape, k.output.trans h.output, Nat.le_trans h.size k.size, fun i hi hn => (k.block i (Nat.lt_of_lt_of_le hi h.size) (fun hx => by rcases ho i hx with h1 | h1; exact hn h1; omega)).trans (h.block i hi hn)⟩
theorem UpO.nw (h : UpO O a b) (k : Nw b c) : UpO O a c := h.trans (O' := fun _ => False) (.of_nw k) (fun _ hx => hx.elim)
theorem UpO.pre (h : Nw a b) (k : UpO O b c) : UpO O a c := UpO.trans (.of_nw h) k (fun _ hx => .inl hx)
theorem UpO.below {B : Nat} {w0 : World} (k : Below B w0 a) (h : UpO O a b) (hB : B ≤ a.heap.size) (ht : ∀ x, O x → B ≤ x) : Below B w0 b :=
  k.trans ⟨h.os, h.tape, h.output, h.size, fun i hi => h.block i (by omega) (fun hx => by have := ht i hx; omega)⟩
theorem UpO.toNw (h : UpO O a b) (ht : ∀ x, O x → a.heap.size ≤ x) : Nw a b := ⟨h.below (Below.refl _ _) (Nat.le_refl _) ht⟩
theorem UpO.nw_of (n : Nw a b) (h : UpO O b c) (ht : ∀ x, O x → a.heap.size ≤ x) : Nw a c := ⟨h.below n.b n.b.size ht⟩
theorem UpO.cell (h : UpO O a b) {p : Addr} {v : Value} (hc : a.cell? p = some v) (hn : ¬ O p.block) : b.cell? p = some v :=
  (World.cell?_of_block (w := a) (h.block p.block (cell_lt hc).1 hn)).trans hc
theorem UpO.blk (h : UpO O a b) {k : Nat} {cs : Array Value} {t : TypeId} (hb : Blk a k cs t) (hn : ¬ O k) : Blk b k cs t := (h.block k hb.lt hn).trans hb
theorem UpO.tag (h : UpO O a b) {k : Nat} {t : TypeId} (hb : Tag a k t) (hn : ¬ O k) : Tag b k t := hb.elim fun _ hb => (h.blk hb hn).tag
theorem UpO.mono (h : UpO O a b) (ho : ∀ x, O x → O' x) : UpO O' a b := ⟨h.os, h.tape, h.output, h.size, fun k hk hn => h.block k hk (fun hx => hn (ho k hx))⟩
theorem UpO.set (h : UpO O a b) {t : Nat} (ht : O t) (j : Nat) (v : Value) : UpO O a (b.setCell ⟨t, j, none⟩ v) := h.trans (.of_up ((Up.refl t b).set j v) ht) (fun _ hx => .inl hx)
theorem UpO.alloc (h : UpO O a b) (o : Obj) : UpO O a (b.alloc o) := h.nw (Nw.refl.alloc o)
theorem UpO.ints (h : UpO O a b) {n : Nat} {k : IntKind} {p : Option Addr} {zs : List Int} (hI : Ints n k a p zs) (hn : zs ≠ [] → ∀ q, p = some q → ¬ O q.block) : Ints n k b p zs := by
  by_cases hz : zs = []
  · exact .inl hz
  rcases hI with e | ⟨b', off, e, hb, hc⟩
  · exact .inl e
  · exact .inr ⟨b', off, e, hb, fun j hj => h.cell (hc j hj) (hn hz ⟨b', off, none⟩ e)⟩
end

def updF {α : Type} (f : Nat → α) (k : Nat) (x : α) : Nat → α := fun i => if i = k then x else f i
theorem updF_same {α : Type} (f : Nat → α) (k : Nat) (x : α) : updF f k x k = x := by unfold updF; rw [if_pos rfl]
theorem updF_ne {α : Type} (f : Nat → α) {k i : Nat} (x : α) (h : i ≠ k) : updF f k x i = f i := by unfold updF; rw [if_neg h]
/-- The block of a slice. -/
def QB (o : Option Addr) (k : Nat) : Prop := ∃ p, o = some p ∧ p.block = k

/-- A slice of things of sz cells in a block of its own. -/
def Qs (W : World) (e : TypeId) (sz : Nat) (a : Option Addr) (c : Nat) (xs : List Value) : Prop :=
  (a = none ∧ xs = [] ∧ c = 0) ∨ ∃ b off, a = some ⟨b, off, none⟩ ∧ Tag W b e ∧ xs.length ≤ c * sz ∧ c ≤ maxLen ∧
    (∀ j, j < c * sz → (W.cell? ⟨b, off + j, none⟩).isSome = true) ∧ ∀ j (h : j < xs.length), W.cell? ⟨b, off + j, none⟩ = some xs[j]
section
variable {W W' : World} {e : TypeId} {sz : Nat} {a : Option Addr} {c : Nat} {xs : List Value}
theorem Qs.nil (W : World) (e : TypeId) (sz : Nat) : Qs W e sz none 0 [] := .inl ⟨rfl, rfl, rfl⟩
theorem Qs.len (h : Qs W e sz a c xs) : xs.length ≤ c * sz := by
  rcases h with ⟨_, rfl, rfl⟩ | ⟨_, _, _, _, h, _⟩
  · simp
  · exact h
theorem Qs.cap (h : Qs W e sz a c xs) : c ≤ maxLen := by
  rcases h with ⟨_, rfl, rfl⟩ | ⟨_, _, _, _, _, h, _⟩
  · exact Nat.zero_le _
  · exact h
theorem Qs.tag (h : Qs W e sz a c xs) {p : Addr} (hp : a = some p) : Tag W p.block e := by
  rcases h with ⟨rfl, _⟩ | ⟨b, off, rfl, ht, _⟩
  · cases hp
  · cases hp; exact ht
theorem Qs.upo {O : Nat → Prop} (h : Qs W e sz a c xs) (k : UpO O W W') (hn : ∀ p, a = some p → ¬ O p.block) : Qs W' e sz a c xs := by
  rcases h with h | ⟨b, off, rfl, hb, h1, h2, h3, h5⟩
  · exact .inl h
  · have hbt := hn ⟨b, off, none⟩ rfl
    have hsame : ∀ j, W'.cell? ⟨b, j, none⟩ = W.cell? ⟨b, j, none⟩ := fun j => World.cell?_of_block (w := W) (a := ⟨b, j, none⟩) (k.block b hb.lt hbt)
    exact .inr ⟨b, off, rfl, k.tag hb hbt, h1, h2, fun j hj => by rw [hsame]; exact h3 j hj, fun j hj => by rw [hsame]; exact h5 j hj⟩
theorem Qs.nw (h : Qs W e sz a c xs) (k : Nw W W') : Qs W' e sz a c xs := h.upo (O := fun _ => False) (.of_nw k) (fun _ _ hx => hx)
theorem Qs.lt (h : Qs W e sz a c xs) : ∀ p, a = some p → p.block < W.heap.size := fun p hp => (h.tag hp).lt
/-- Of what another kind has is nothing. -/
theorem Qs.not_qb (h : Qs W e sz a c xs) {k : Nat} {t : TypeId} (hk : Tag W k t) (ht : t ≠ e) : ¬ QB a k := by
  rintro ⟨p, hp, rfl⟩
  exact hk.ne (h.tag hp) ht rfl
/-- The slice behind its first thing. -/
theorem Qs.tail {b off : Nat} (h : Qs W e sz (some ⟨b, off, none⟩) c xs) (hc : 1 < c) : Qs W e sz (some ⟨b, off + sz, none⟩) (c - 1) (xs.drop sz) := by
  rcases h with ⟨h, _⟩ | ⟨b', off', h, ht, h1, h2, h3, h4⟩
  · cases h
  · cases h
    have e1 : c * sz = (c - 1) * sz + sz := by
      obtain ⟨m, rfl⟩ : ∃ m, c = m + 1 := ⟨c - 1, by omega⟩
      rw [Nat.add_sub_cancel, Nat.succ_mul]
    refine .inr ⟨b, off + sz, rfl, ht, by rw [List.length_drop]; omega, by omega, fun j hj => ?_, fun j hj => ?_⟩
    · rw [Nat.add_assoc]; exact h3 _ (by omega)
    · rw [List.length_drop] at hj
      rw [Nat.add_assoc, h4 _ (by omega), List.getElem_drop]
theorem Qs.empty {b off : Nat} (h : Qs W e sz (some ⟨b, off, none⟩) c xs) : Qs W e sz (some ⟨b, off, none⟩) 0 [] := by
  rcases h with ⟨h, _⟩ | ⟨b', off', h, ht, _⟩
  · cases h
  · cases h
    exact .inr ⟨b, off, rfl, ht, by simp, by unfold maxLen; omega, fun j hj => by simp at hj, fun j hj => by simp at hj⟩
end

/-- One more thing behind a slice of its own. -/
theorem wpList_append_qs {P : Program} (w : World) {ops : Array Oper} {rest : List Oper} {o : Oper} {a : Act} {Q : Exit → Act → World → Prop}
    (hg : o.guard = none) (s x : Operand) (t : TypeId) (hop : o.op = .call { callee := .builtin .append, args := #[s, x], argTypes := #[t, t] })
    (e : TypeId) (i : TypeInfo) (z : Value) (sz bytes : Nat) (h1 : P.underlying t = some (.slice e)) (h2 : P.info? e = some i) (h3 : i.zero = some z) (h4 : i.size = sz) (h5 : i.bytes = bytes) (hzs : z.cells.size = sz) (hsz : 0 < sz)
    (a0 : Option Addr) (n c0 : Nat) (xs : List Value) (hs : a.eval s = .slice a0 n c0) (hn : xs.length = n * sz) (hq : Qs w e sz a0 c0 xs) (h63 : n + 1 ≤ maxLen) (hby : (n + 1) * bytes ≤ 140737488355328)
    (ad : Addr) (c : Nat) (ys : List Value) (hx : a.eval x = .slice (some ad) 1 c) (hl : ys.length = 1 * sz) (hc : ∀ j u, ys[j]? = some u → w.cell? (ad.add j) = some u) (hone : ∀ u ∈ ys, u.oneCell' = true)
    (hK : ∀ a1 c1 w', Qs w' e sz a1 c1 (xs ++ ys) → UpO (QB a0) w w' → (∀ p, a1 = some p → QB a0 p.block ∨ w.heap.size ≤ p.block) → wpList P ops Q rest (a.put o.dst (.slice a1 (n + 1) c1)) w') :
    wpList P ops Q (o :: rest) a w := by
  have grown : ∀ v' w', w'.ownsRow w.heap.size e sz v' (n + 1) (xs ++ ys) → w.grownBy w' none → wpList P ops Q rest (a.put o.dst v') w' := by
    intro v' w' ho hgr
    have hN : Nw w w' := ⟨Below.of_grown hgr⟩
    rcases ho.2 with ⟨_, h0⟩ | ⟨g, cap, cur, rfl, hg, hh, hn', hm, hcs, hcur⟩
    · omega
    · have hlen : (xs ++ ys).length = (n + 1) * sz := ho.1
      refine hK (some ⟨g, 0, none⟩) cap w' (.inr ⟨g, 0, rfl, ⟨cur, hh⟩, by rw [hlen]; exact Nat.mul_le_mul_right _ hn', hm, fun j hj => ?_, fun j hj => ?_⟩) (.of_nw hN) (fun p hp => by cases hp; exact .inr hg)
      · rw [cell_of_row w' g (0 + j) _ _ _ hh]; simp [hcs, hj]
      · rw [cell_of_row w' g (0 + j) _ _ _ hh, Nat.zero_add]
        have hj' : j < (n + 1) * sz := by omega
        have : cur.toList[j]? = (xs ++ ys)[j]? := by rw [← hcur, List.getElem?_take_of_lt hj']
        rw [List.getElem?_eq_getElem hj] at this
        simpa using this
  rcases hq with ⟨rfl, rfl, rfl⟩ | ⟨b, off, rfl, hb, hle, hm, hsome, hcell⟩
  · have hn0 : n = 0 := by
      rcases Nat.eq_zero_or_pos n with h | h
      · exact h
      · have := Nat.mul_pos h hsz
        rw [← hn] at this; simp at this
    subst hn0
    refine wpList_append_grows w hg s x t hop e i z sz bytes h1 h2 h3 h4 h5 hzs hsz none 0 0 [] hs (fun _ => ⟨rfl, rfl⟩) (by simp) (fun b hb => by cases hb) ad 1 c ys hx hl hc hone (by decide) h63 hby (fun v' w' ho hgr => grown v' w' ?_ hgr)
    simpa using ho
  · have hnc : n ≤ c0 := by rw [hn] at hle; exact Nat.le_of_mul_le_mul_right hle hsz
    refine wpList_append_arg w hg s x t hop e i z sz bytes h1 h2 h3 h4 h5 hzs hsz b off n c0 xs hs hn ?_ ad 1 c ys hx hl hc hone ?_ h63 hby ?_ (fun hlt v' w' ho hgr => grown v' w' ho hgr)
    · intro j u hj
      obtain ⟨hj', rfl⟩ := List.getElem?_eq_some_iff.1 hj
      exact hcell j hj'
    · intro hr j hj
      have : (n + 1) * sz ≤ c0 * sz := Nat.mul_le_mul_right _ hr
      rw [Nat.succ_mul] at this
      exact ⟨by rw [Nat.add_assoc]; exact hsome _ (by omega), hb.frozen _⟩
    · intro hr
      have hcs : (n + 1) * sz ≤ c0 * sz := Nat.mul_le_mul_right _ hr
      rw [Nat.succ_mul] at hcs
      have hy : ys.length = sz := by omega
      have hu : ∀ (vs : List Value) (o : Nat) (v : World), Up b v (v.setCells b o vs) ∧ ((∃ cs, Blk v b cs e) → ∃ cs, Blk (v.setCells b o vs) b cs e) := by
        intro vs
        induction vs with
        | nil => intro o v; exact ⟨Up.refl _ _, id⟩
        | cons x r ih =>
          intro o v
          obtain ⟨i1, i2⟩ := ih (o + 1) (v.setCell ⟨b, o, none⟩ x)
          exact ⟨((Up.refl b v).set o x).trans i1, fun h => i2 (Tag.set h b o x)⟩
      have hsomes : ∀ j, j < ys.length → (w.cell? ⟨b, off + n * sz + j, none⟩).isSome = true := fun j hj => by rw [Nat.add_assoc]; exact hsome _ (by omega)
      refine hK (some ⟨b, off, none⟩) c0 _ (.inr ⟨b, off, rfl, (hu ys _ w).2 hb, by rw [List.length_append]; omega, hm, fun j hj => ?_, fun j hj => ?_⟩) (.of_up (hu ys _ w).1 ⟨_, rfl, rfl⟩) (fun p hp => by cases hp; exact .inl ⟨_, rfl, rfl⟩)
      · by_cases hin : n * sz ≤ j ∧ j < n * sz + sz
        · have := World.cell?_setCells_in b ys (off + n * sz) w hsomes (j - n * sz) (by omega)
          rw [show off + n * sz + (j - n * sz) = off + j by omega] at this
          rw [this]; rfl
        · rw [World.cell?_setCells_out b ys (off + n * sz) w ⟨b, off + j, none⟩ (fun _ _ => by dsimp only; omega)]
          exact hsome j hj
      · by_cases hin : j < xs.length
        · rw [World.cell?_setCells_out b ys (off + n * sz) w ⟨b, off + j, none⟩ (fun _ _ => by dsimp only; omega), hcell j hin, List.getElem_append_left hin]
        · rw [List.length_append] at hj
          have := World.cell?_setCells_in b ys (off + n * sz) w hsomes (j - n * sz) (by omega)
          rw [show off + n * sz + (j - n * sz) = off + j by omega] at this
          rw [this, List.getElem_append_right (by omega)]
          congr 2
          omega

end Go.Proofs.Ytkopfnldgnkkoaa
