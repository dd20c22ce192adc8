/-
  RUNS, PLAINLY: what all steps of writes leave.
-/
import Derived.Test.YtkopfnldgnkkoaaCmG
import Derived.Test.YtkopfnldgnkkoaaCmF
namespace Go.Proofs.Ytkopfnldgnkkoaa
set_option linter.unusedVariables false

def doAll (L : List St) (f : Nat → Wd) : Nat → Wd := L.foldl (fun f s => doOp s.o f) f
theorem doAll_nil (f : Nat → Wd) : doAll [] f = f := rfl
theorem doAll_cons (s : St) (L : List St) (f : Nat → Wd) : doAll (s :: L) f = doAll L (doOp s.o f) := rfl
theorem doAll_append (L M : List St) (f : Nat → Wd) : doAll (L ++ M) f = doAll M (doAll L f) := by simp [doAll]
theorem doAll_take_succ {L : List St} {k : Nat} (h : k < L.length) (f : Nat → Wd) : doAll (L.take (k + 1)) f = doOp L[k].o (doAll (L.take k) f) := by
  rw [List.take_succ_eq_append_getElem h, doAll_append]; rfl

/-! ### What is seen -/
theorem upd_at (f : Nat → Wd) (k i : Nat) (x : Wd) : upd f k x i = if i = k then x else f i := rfl
theorem lineU_seen {op : Wd → Wd} (h : ∀ x, (op x).seen = x.seen) (i : Nat) (f : Nat → Wd) (k : Nat) : (lineU i op f k).seen = (f k).seen := by
  unfold lineU; split
  · exact h _
  · rfl
theorem flushW_seen (x : Wd) : (flushW x).seen = x.seen := rfl
theorem fenceW_seen (x : Wd) : (fenceW x).seen = x.seen := by unfold fenceW; split <;> rfl
theorem fenceU_seen (f : Nat → Wd) (k : Nat) : (fenceU f k).seen = (f k).seen := by
  unfold fenceU; split
  · exact fenceW_seen _
  · rfl
/-- What a step's store is. -/
def storeOf : Op9 → List Wr
  | .store x v => [(x, v)]
  | _ => []
/-- What is seen behind writes, in turn. -/
def wrote (l : List Wr) (s : Nat → Int) : Nat → Int := l.foldl (fun s x => fun k => if k = x.1.toNat then x.2 else s k) s
theorem wrote_append (l m : List Wr) (s : Nat → Int) : wrote (l ++ m) s = wrote m (wrote l s) := by simp [wrote]
theorem doOp_seen (o : Op9) (f : Nat → Wd) (k : Nat) : (doOp o f k).seen = wrote (storeOf o) (fun k => (f k).seen) k := by
  cases o with
  | store x v =>
    show (upd f x.toNat (storeW (f x.toNat) v) k).seen = if k = x.toNat then v else (f k).seen
    rw [upd_at]; split <;> rfl
  | flush l => exact lineU_seen flushW_seen _ _ _
  | fence => exact fenceU_seen _ _
theorem doAll_seen : ∀ (L : List St) (f : Nat → Wd) (k : Nat), (doAll L f k).seen = wrote (L.flatMap fun s => storeOf s.o) (fun k => (f k).seen) k
  | [], f, k => rfl
  | s :: L, f, k => by
    rw [doAll_cons, doAll_seen L, List.flatMap_cons, wrote_append]
    congr 1
    funext j
    exact doOp_seen s.o f j
theorem stores_both (p q : Int) (l : List Wr) : ((bothL p q l).flatMap fun s => storeOf s.o) = l := by
  unfold bothL settleL
  rw [List.flatMap_append, List.flatMap_append]
  have h1 : ((storeL p l).flatMap fun s => storeOf s.o) = l := by
    unfold storeL
    induction l with
    | nil => rfl
    | cons x l ih => rw [List.map_cons, List.flatMap_cons, ih]; rfl
  have h2 : ∀ zs : List Int, ((flushL9 q zs).flatMap fun s => storeOf s.o) = [] := by
    intro zs
    unfold flushL9
    induction zs with
    | nil => rfl
    | cons x l ih => rw [List.map_cons, List.flatMap_cons, ih]; rfl
  rw [h1, h2]
  simp [storeOf]

/-! ### A clean device: nothing is loose -/
structure CleanW (x : Wd) : Prop where
  l : x.loose = false
  f : x.flushed = false
  a : x.again = false
  s : x.sure = x.seen
def Clean (N : Nat) (f : Nat → Wd) : Prop := ∀ k, k < N → CleanW (f k)
/-- Clean, or stored and not flushed since. -/
structure StW (x : Wd) : Prop where
  l : x.loose = true
  f : x.flushed = false
/-- Flushed, and not stored since. -/
structure FlW (x : Wd) : Prop where
  l : x.loose = true
  f : x.flushed = true
  a : x.again = false
  v : x.value = x.seen
theorem storeW_st {x : Wd} (h : CleanW x ∨ StW x) (v : Int) : StW (storeW x v) := ⟨rfl, by rcases h with h | h; exact h.f; exact h.f⟩
theorem flushW_fl (x : Wd) : FlW (flushW x) := ⟨rfl, rfl, rfl, rfl⟩
theorem fenceW_clean {x : Wd} (h : FlW x) : CleanW (fenceW x) := by
  unfold fenceW
  rw [if_pos h.f]
  exact ⟨h.a, rfl, h.a, h.v⟩
/-- Behind the stores: what was stored is loose, the rest is clean. -/
theorem stored_all (N : Nat) (p : Int) : ∀ (l : List Wr) (f : Nat → Wd) (A : Nat → Prop), (∀ k, k < N → (A k ∧ StW (f k)) ∨ CleanW (f k)) →
    ∀ k, k < N → ((A k ∨ ∃ x ∈ l, x.1.toNat = k) ∧ StW (doAll (storeL p l) f k)) ∨ CleanW (doAll (storeL p l) f k)
  | [], f, A, h, k, hk => (h k hk).imp (fun ⟨h1, h2⟩ => ⟨.inl h1, h2⟩) id
  | x :: l, f, A, h, k, hk => by
    have ih := stored_all N p l (doOp (.store x.1 x.2) f) (fun k => A k ∨ x.1.toNat = k) (fun j hj => by
      show _ ∨ CleanW (upd f x.1.toNat (storeW (f x.1.toNat) x.2) j)
      show (_ ∧ StW (upd f x.1.toNat (storeW (f x.1.toNat) x.2) j)) ∨ _
      rw [upd_at]
      by_cases e : j = x.1.toNat
      · rw [if_pos e]
        refine .inl ⟨.inr e.symm, storeW_st ?_ _⟩
        rw [← e]
        exact (h j hj).elim (fun hh => .inr hh.2) .inl
      · rw [if_neg e]
        exact (h j hj).imp (fun ⟨h1, h2⟩ => ⟨.inl h1, h2⟩) id) k hk
    refine ih.imp (fun ⟨h1, h2⟩ => ⟨?_, h2⟩) id
    rcases h1 with (h1 | h1) | ⟨y, hy, e⟩
    · exact .inl h1
    · exact .inr ⟨x, List.mem_cons_self, h1⟩
    · exact .inr ⟨y, List.mem_cons_of_mem _ hy, e⟩
/-- Behind the flushes of lines: what is loose in them is flushed. -/
theorem flushed_all (N : Nat) (q : Int) : ∀ (zs : List Int) (f : Nat → Wd) (A : Nat → Prop), (∀ k, k < N → CleanW (f k) ∨ FlW (f k) ∨ (A k ∧ StW (f k))) →
    ∀ k, k < N → CleanW (doAll (flushL9 q zs) f k) ∨ FlW (doAll (flushL9 q zs) f k) ∨ ((A k ∧ ∀ z ∈ zs, z.toNat ≠ k / 8) ∧ StW (doAll (flushL9 q zs) f k))
  | [], f, A, h, k, hk => (h k hk).imp id (fun h => h.imp id (fun ⟨h1, h2⟩ => ⟨⟨h1, by simp⟩, h2⟩))
  | z :: zs, f, A, h, k, hk => by
    have ih := flushed_all N q zs (doOp (.flush z) f) (fun k => A k ∧ z.toNat ≠ k / 8) (fun j hj => by
      show CleanW (lineU z.toNat flushW f j) ∨ FlW (lineU z.toNat flushW f j) ∨ (_ ∧ StW (lineU z.toNat flushW f j))
      unfold lineU
      by_cases e : j / 8 = z.toNat ∧ (f j).loose = true
      · rw [if_pos e]; exact .inr (.inl (flushW_fl _))
      · rw [if_neg e]
        refine (h j hj).imp id (fun h => h.imp id (fun ⟨h1, h2⟩ => ⟨⟨h1, fun e2 => e ⟨e2.symm, h2.l⟩⟩, h2⟩))) k hk
    refine ih.imp id (fun h => h.imp id (fun ⟨⟨⟨h1, h2⟩, h3⟩, h4⟩ => ⟨⟨h1, fun y hy => ?_⟩, h4⟩))
    rcases List.mem_cons.1 hy with rfl | hy
    · exact h2
    · exact h3 y hy
theorem fence_clean (N : Nat) (f : Nat → Wd) (h : ∀ k, k < N → CleanW (f k) ∨ FlW (f k)) : Clean N (fenceU f) := by
  intro k hk
  unfold fenceU
  rcases h k hk with h | h
  · rw [if_neg (by rw [h.l]; simp)]; exact h
  · rw [if_pos h.l]; exact fenceW_clean h
theorem doAll_fence (q : Int) (f : Nat → Wd) : doAll [⟨q, .fence⟩] f = fenceU f := rfl
/-- WRITES, STORED, FLUSHED AND FENCED, LEAVE A CLEAN DEVICE CLEAN. -/
theorem both_clean (N : Nat) (p q : Int) (l : List Wr) (hl : ∀ x ∈ l, 0 ≤ x.1 ∧ x.1 < 65536) (f : Nat → Wd) (h : Clean N f) : Clean N (doAll (bothL p q l) f) := by
  unfold bothL settleL
  rw [doAll_append, doAll_append, doAll_fence]
  refine fence_clean N _ (fun k hk => ?_)
  have h1 := stored_all N p l f (fun _ => False) (fun k hk => .inr (h k hk))
  have h2 := flushed_all N q (linesOf (lineL l)) (doAll (storeL p l) f) (fun k => ∃ x ∈ l, x.1.toNat = k) (fun j hj => by
    rcases h1 j hj with ⟨h1 | h1, h2⟩ | h1
    · exact h1.elim
    · exact .inr (.inr ⟨h1, h2⟩)
    · exact .inl h1) k hk
  rcases h2 with h2 | h2 | ⟨⟨⟨x, hx, e⟩, hno⟩, _⟩
  · exact .inl h2
  · exact .inr h2
  · exfalso
    have hb := hl x hx
    have hm : x.1 / 8 ∈ linesOf (lineL l) := by
      rw [linesOf_mem (fun z hz => by obtain ⟨y, hy, rfl⟩ := List.mem_map.1 hz; have := hl y hy; omega)]
      exact List.mem_map.2 ⟨x, hx, rfl⟩
    exact hno _ hm (by omega)
theorem clean_seen {N : Nat} {f : Nat → Wd} (h : Clean N f) {k : Nat} (hk : k < N) : (f k).sure = (f k).seen := (h k hk).s
theorem clean_loose {N : Nat} {f : Nat → Wd} (h : Clean N f) : looseN N f = 0 := (looseN_zero N f).2 (fun k hk => (h k hk).l)

/-! ### All steps of writes -/
theorem begin_clean (N : Nat) (area : Int) (h0 : 0 ≤ area) (h1 : area + 208 ≤ 65536) (l : List Wr) (hn : l.length ≤ 96) (hl : ∀ x ∈ l, 0 ≤ x.1 ∧ x.1 < 65536) (f : Nat → Wd) (h : Clean N f) : Clean N (doAll (beginL area l) f) := by
  unfold beginL applyL markL
  rw [doAll_append, doAll_append, doAll_append]
  refine both_clean N _ _ _ (by intro x hx; rw [List.mem_singleton.1 hx]; exact ⟨h0, by omega⟩) _ ?_
  refine both_clean N _ _ _ hl _ ?_
  refine both_clean N _ _ _ (by intro x hx; rw [List.mem_singleton.1 hx]; exact ⟨h0, by omega⟩) _ ?_
  refine both_clean N _ _ _ ?_ _ h
  intro x hx
  simp only [ownW, List.mem_map, List.mem_range] at hx
  obtain ⟨i, hi, rfl⟩ := hx
  rw [recL_len] at hi
  dsimp only
  omega
theorem begin_stores (area : Int) (l : List Wr) : ((beginL area l).flatMap fun s => storeOf s.o) = ownW area (recL l) ++ [(area, markV (recL l))] ++ (l ++ [(area, 0)]) := by
  unfold beginL applyL markL
  rw [List.flatMap_append, List.flatMap_append, List.flatMap_append, stores_both, stores_both, stores_both, stores_both]
/-- Steps that a device takes. -/
theorem both_ok {N : Nat} {p q : Int} {l : List Wr} (hl : ∀ x ∈ l, 0 ≤ x.1 ∧ x.1 < 65536 ∧ x.1 < N) : ∀ s ∈ bothL p q l, okOp N s.o := by
  intro s hs
  unfold bothL settleL at hs
  rcases List.mem_append.1 hs with hs | hs
  · obtain ⟨x, hx, rfl⟩ := List.mem_map.1 hs
    have := hl x hx
    exact ⟨this.1, this.2.2⟩
  · rcases List.mem_append.1 hs with hs | hs
    · obtain ⟨z, hz, rfl⟩ := List.mem_map.1 hs
      rw [linesOf_mem (fun z hz => by obtain ⟨y, hy, rfl⟩ := List.mem_map.1 hz; have := hl y hy; omega)] at hz
      obtain ⟨x, hx, rfl⟩ := List.mem_map.1 hz
      have := hl x hx
      exact ⟨by omega, by omega⟩
    · rw [List.mem_singleton.1 hs]; trivial
theorem begin_ok {N : Nat} {area : Int} (h0 : 0 ≤ area) (h1 : area + 208 ≤ 65536) (hN : area + 208 ≤ N) {l : List Wr} (hn : l.length ≤ 96) (hl : ∀ x ∈ l, 0 ≤ x.1 ∧ x.1 < 65536 ∧ x.1 < N) : ∀ s ∈ beginL area l, okOp N s.o := by
  intro s hs
  unfold beginL applyL markL at hs
  have hone : ∀ v : Int, ∀ x ∈ [(area, v)], 0 ≤ x.1 ∧ x.1 < 65536 ∧ x.1 < (N : Int) := by
    intro v x hx; rw [List.mem_singleton.1 hx]; exact ⟨h0, by omega, by dsimp only; omega⟩
  rcases List.mem_append.1 hs with hs | hs
  · rcases List.mem_append.1 hs with hs | hs
    · refine both_ok (fun x hx => ?_) s hs
      simp only [ownW, List.mem_map, List.mem_range] at hx
      obtain ⟨i, hi, rfl⟩ := hx
      rw [recL_len] at hi
      dsimp only
      omega
    · exact both_ok (hone _) s hs
  · rcases List.mem_append.1 hs with hs | hs
    · exact both_ok hl s hs
    · exact both_ok (hone _) s hs

end Go.Proofs.Ytkopfnldgnkkoaa
