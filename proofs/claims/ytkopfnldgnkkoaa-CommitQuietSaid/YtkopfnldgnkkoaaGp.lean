/-
  THE LAW'S WRITES, PLAINLY: they may be; how many steps of each phase they have.
-/
import Derived.Test.YtkopfnldgnkkoaaGw
import Derived.Test.YtkopfnldgnkkoaaCmP
namespace Go.Proofs.Ytkopfnldgnkkoaa
open Go.RowKit Go.Shelf
set_option linter.unusedVariables false

/-- In the worker's blocks, each word once. -/
structure InB (b : Int) (o : List Wr) : Prop where
  i : ∀ x ∈ o, b ≤ x.1 ∧ x.1 < b + 16 ∧ u64 x.2
  a : o.Pairwise fun x y => x.1 ≠ y.1
theorem InB.step {b : Int} {o : List Wr} (h : InB b o) {x : Pu} (hx : puOk x) : InB b (wrStep b o x) := by
  unfold wrStep
  by_cases e : (o.any fun y => y.1 == wrAt b x) = true
  · rw [if_pos e]; exact h
  · rw [if_neg e]
    refine ⟨fun y hy => ?_, ?_⟩
    · rcases List.mem_append.1 hy with hy | hy
      · exact h.i y hy
      · rw [List.mem_singleton.1 hy]
        unfold wrAt; dsimp only
        exact ⟨by omega, by omega, hx.2⟩
    · rw [List.pairwise_append]
      refine ⟨h.a, List.pairwise_singleton _ _, fun y hy z hz => ?_⟩
      rw [List.mem_singleton.1 hz]
      intro e2
      exact e (List.any_eq_true.2 ⟨y, hy, by simpa using e2⟩)
theorem wr_in {b : Int} : ∀ (l : List Pu) (o : List Wr), InB b o → (∀ x ∈ l, puOk x) → InB b (l.foldl (wrStep b) o)
  | [], o, h, _ => h
  | x :: l, o, h, hl => wr_in l (wrStep b o x) (h.step (hl x List.mem_cons_self)) fun y hy => hl y (List.mem_cons_of_mem _ hy)
theorem wrL_in {b : Int} {l : List Pu} (hl : ∀ x ∈ l, puOk x) : InB b (wrL b l) := wr_in l [] ⟨by simp, List.Pairwise.nil⟩ hl
/-- Such writes may be. -/
theorem inB_may {g : G} {b : Int} {o : List Wr} (hm : mayP g) (h : InB b o) (hn : o.length ≤ 96) (h0 : atN g 6 ≤ b) (h1 : b + 16 ≤ atN g 7) : mayW g o = true := by
  unfold mayW
  rw [mayB_true.2 hm, decide_eq_true hn]
  simp only [Bool.and_self, Bool.true_and]
  refine List.all_eq_true.2 fun i hi => ?_
  have hi := List.mem_range.1 hi
  have hat : ∀ j (hj : j < o.length), atW o j = o[j].1 := fun j hj => by simp [atW, hj]
  have hx := h.i _ (List.getElem_mem hi)
  unfold okAt
  rw [hat i hi, Bool.and_eq_true]
  refine ⟨?_, List.all_eq_true.2 fun j hj => ?_⟩
  · simp only [atN] at h0 h1
    rw [row6 hm (by omega) (by omega)]; rfl
  · have hj := List.mem_range.1 hj
    rw [hat j (by omega), hat i hi, bne_iff_ne]
    exact List.pairwise_iff_getElem.1 h.a j i (by omega) hi hj

/-! ### Counting -/
def cntL (p : Nat → Bool) (M : Nat) : Nat := ((List.range M).filter p).length
theorem cntL_succ (p : Nat → Bool) (M : Nat) : cntL p (M + 1) = cntL p M + if p M = true then 1 else 0 := by
  unfold cntL
  rw [List.range_succ, List.filter_append, List.length_append]
  by_cases h : p M = true
  · rw [if_pos h]; simp [h]
  · rw [if_neg h]; simp [h]
theorem cntL_zero (p : Nat → Bool) : cntL p 0 = 0 := rfl
theorem cntL_le (p : Nat → Bool) : ∀ M, cntL p M ≤ M
  | 0 => Nat.le_refl _
  | M + 1 => by rw [cntL_succ]; have := cntL_le p M; split <;> omega
theorem cntL_cut (p : Nat → Bool) (M : Nat) (h : ∀ z, M ≤ z → p z = false) : ∀ d, cntL p (M + d) = cntL p M
  | 0 => rfl
  | d + 1 => by rw [← Nat.add_assoc, cntL_succ, cntL_cut p M h d, h _ (by omega)]; rfl
theorem cntL_iv (p : Nat → Bool) (c m : Nat) (h : ∀ z, p z = true ↔ c ≤ z ∧ z < c + m) : ∀ M, cntL p M = min M (c + m) - min M c
  | 0 => by simp [cntL_zero]
  | M + 1 => by
    rw [cntL_succ, cntL_iv p c m h M]
    by_cases hp : p M = true
    · rw [if_pos hp]; have := (h M).1 hp; omega
    · rw [if_neg hp]
      have : ¬ (c ≤ M ∧ M < c + m) := fun hh => hp ((h M).2 hh)
      omega
theorem cntL_congr {p q : Nat → Bool} (h : ∀ z, p z = q z) (M : Nat) : cntL p M = cntL q M := by rw [show p = q from funext h]
theorem lines_len (zs : List Int) : (linesOf zs).length = cntL (fun k => decide ((k : Int) ∈ zs)) 8192 := by
  unfold linesOf cntL
  rw [List.length_map]
theorem lines_one (x v : Int) (h0 : 0 ≤ x) (h1 : x < 65536) : (linesOf (lineL [(x, v)])).length = 1 := by
  rw [lines_len, cntL_iv _ (x / 8).toNat 1 (fun z => by simp [lineL]; omega)]
  omega
/-- Of a record that stands at the beginning of a line. -/
theorem lines_own (c : Nat) (ws : List Int) (hl : 8 * c + 8 + ws.length ≤ 65536) : (linesOf (lineL (ownW (8 * (c : Int)) ws))).length = (ws.length + 7) / 8 := by
  rw [lines_len, cntL_iv _ (c + 1) ((ws.length + 7) / 8) (fun z => ?_)]
  · omega
  · rw [decide_eq_true_eq]
    unfold lineL ownW
    simp only [List.map_map, List.mem_map, List.mem_range, Function.comp]
    constructor
    · rintro ⟨i, hi, e⟩; omega
    · rintro ⟨h1, h2⟩
      exact ⟨8 * (z - (c + 1)), by omega, by omega⟩
/-- Does a write stand in a line? -/
def inLine (o : List Wr) (k : Nat) : Bool := o.any fun y => y.1.tdiv 8 == (k : Int)
theorem lines_in (o : List Wr) (M : Nat) (hM : M ≤ 8192) (h : ∀ x ∈ o, 0 ≤ x.1 ∧ x.1 < 8 * (M : Int)) : (linesOf (lineL o)).length = cntL (inLine o) M := by
  have e : ∀ z : Nat, decide ((z : Int) ∈ lineL o) = inLine o z := fun z => by
    rw [Bool.eq_iff_iff, decide_eq_true_eq]
    unfold inLine lineL
    rw [List.any_eq_true, List.mem_map]
    constructor
    · rintro ⟨x, hx, e⟩
      have := h x hx
      exact ⟨x, hx, by rw [beq_iff_eq, Int.tdiv_eq_ediv_of_nonneg this.1]; exact e⟩
    · rintro ⟨x, hx, e⟩
      have := h x hx
      rw [beq_iff_eq, Int.tdiv_eq_ediv_of_nonneg this.1] at e
      exact ⟨x, hx, e⟩
  rw [lines_len, cntL_congr e]
  obtain ⟨d, hd⟩ : ∃ d, 8192 = M + d := ⟨8192 - M, by omega⟩
  rw [hd]
  refine cntL_cut _ M (fun z hz => ?_) d
  rw [Bool.eq_false_iff]
  intro hh
  unfold inLine at hh
  rw [List.any_eq_true] at hh
  obtain ⟨x, hx, e⟩ := hh
  have := h x hx
  rw [beq_iff_eq, Int.tdiv_eq_ediv_of_nonneg this.1] at e
  omega

/-! ### The phases -/
def cntP (q : Int) (L : List St) : Nat := (L.filter fun s => s.p == q).length
theorem cntP_append (q : Int) (L M : List St) : cntP q (L ++ M) = cntP q L + cntP q M := by simp [cntP]
theorem cntP_all {q p : Int} {L : List St} (h : ∀ s ∈ L, s.p = p) : cntP q L = if p = q then L.length else 0 := by
  unfold cntP
  by_cases e : p = q
  · rw [if_pos e, List.filter_eq_self.2 (fun s hs => by rw [h s hs, e]; simp)]
  · rw [if_neg e, List.filter_eq_nil_iff.2 (fun s hs => by rw [h s hs]; simpa using e)]; rfl
theorem cntP_take {q : Int} {L : List St} {j : Nat} (h : j < L.length) : cntP q (L.take (j + 1)) = cntP q (L.take j) + if L[j].p = q then 1 else 0 := by
  rw [List.take_succ_eq_append_getElem h, cntP_append]
  congr 1
  unfold cntP
  by_cases e : L[j].p = q
  · rw [if_pos e]; simp [e]
  · rw [if_neg e]; simp [e]
theorem store_p (p : Int) (l : List Wr) : ∀ s ∈ storeL p l, s.p = p := fun s hs => by
  obtain ⟨x, _, rfl⟩ := List.mem_map.1 hs; rfl
theorem settle_p (p : Int) (l : List Wr) : ∀ s ∈ settleL p l, s.p = p := fun s hs => by
  rcases List.mem_append.1 hs with hs | hs
  · obtain ⟨x, _, rfl⟩ := List.mem_map.1 hs; rfl
  · rw [List.mem_singleton.1 hs]
theorem settle_len (p : Int) (l : List Wr) : (settleL p l).length = (linesOf (lineL l)).length + 1 := by
  unfold settleL; rw [List.length_append, flushL9_len]; rfl
theorem cntP_both (q p p' : Int) (l : List Wr) : cntP q (bothL p p' l) = (if p = q then l.length else 0) + if p' = q then (linesOf (lineL l)).length + 1 else 0 := by
  unfold bothL
  rw [cntP_append, cntP_all (store_p p l), cntP_all (settle_p p' l), storeL_len, settle_len]
theorem both_p {p q : Int} {l : List Wr} : ∀ s ∈ bothL p q l, s.p = p ∨ s.p = q := fun s hs => by
  rcases List.mem_append.1 hs with hs | hs
  · exact .inl (store_p p l s hs)
  · exact .inr (settle_p q l s hs)
def Rise (L : List St) : Prop := L.Pairwise fun s t => s.p ≤ t.p
theorem rise_all {p : Int} {L : List St} (h : ∀ s ∈ L, s.p = p) : Rise L := by
  unfold Rise
  rw [List.pairwise_iff_getElem]
  intro i j hi hj _
  rw [h _ (List.getElem_mem hi), h _ (List.getElem_mem hj)]
  exact Int.le_refl _
theorem rise_append {L M : List St} (a : Int) (hL : Rise L) (hM : Rise M) (h1 : ∀ s ∈ L, s.p ≤ a) (h2 : ∀ s ∈ M, a ≤ s.p) : Rise (L ++ M) := by
  unfold Rise
  rw [List.pairwise_append]
  exact ⟨hL, hM, fun s hs t ht => Int.le_trans (h1 s hs) (h2 t ht)⟩
theorem rise_both {p q : Int} (h : p ≤ q) (l : List Wr) : Rise (bothL p q l) :=
  rise_append p (rise_all (store_p p l)) (rise_all (settle_p q l)) (fun s hs => by rw [store_p p l s hs]; exact Int.le_refl _) (fun s hs => by rw [settle_p q l s hs]; exact h)
theorem begin_rise (area : Int) (l : List Wr) : Rise (beginL area l) ∧ ∀ s ∈ beginL area l, 1 ≤ s.p ∧ s.p ≤ 6 := by
  unfold beginL applyL markL
  have hb : ∀ {p q : Int} {l : List Wr} {a b : Int}, a ≤ p → p ≤ b → a ≤ q → q ≤ b → ∀ s ∈ bothL p q l, a ≤ s.p ∧ s.p ≤ b := fun h1 h2 h3 h4 s hs => by
    rcases both_p s hs with h | h <;> rw [h] <;> exact ⟨by assumption, by assumption⟩
  have hc : ∀ {L M : List St} {a b : Int}, (∀ s ∈ L, a ≤ s.p ∧ s.p ≤ b) → (∀ s ∈ M, a ≤ s.p ∧ s.p ≤ b) → ∀ s ∈ L ++ M, a ≤ s.p ∧ s.p ≤ b := fun h1 h2 s hs => by
    rcases List.mem_append.1 hs with h | h
    · exact h1 s h
    · exact h2 s h
  refine ⟨?_, ?_⟩
  · refine rise_append 3 (rise_append 2 (rise_both (by decide) _) (rise_both (by decide) _) (fun s hs => ?_) (fun s hs => ?_)) (rise_append 5 (rise_both (by decide) _) (rise_both (by decide) _) (fun s hs => ?_) (fun s hs => ?_)) (fun s hs => ?_) (fun s hs => ?_)
    · exact (hb (a := 1) (b := 2) (by decide) (by decide) (by decide) (by decide) s hs).2
    · exact (hb (a := 2) (b := 3) (by decide) (by decide) (by decide) (by decide) s hs).1
    · exact (hb (a := 1) (b := 5) (by decide) (by decide) (by decide) (by decide) s hs).2
    · exact (hb (a := 5) (b := 6) (by decide) (by decide) (by decide) (by decide) s hs).1
    · exact (hc (hb (a := 1) (b := 3) (by decide) (by decide) (by decide) (by decide)) (hb (by decide) (by decide) (by decide) (by decide)) s hs).2
    · exact (hc (hb (a := 3) (b := 6) (by decide) (by decide) (by decide) (by decide)) (hb (by decide) (by decide) (by decide) (by decide)) s hs).1
  · exact hc (hc (hb (by decide) (by decide) (by decide) (by decide)) (hb (by decide) (by decide) (by decide) (by decide))) (hc (hb (by decide) (by decide) (by decide) (by decide)) (hb (by decide) (by decide) (by decide) (by decide)))
/-- What the law wants of each phase. -/
def wantL (n m : Nat) : List Nat := [0, 2 + 2 * n, (2 + 2 * n + 7) / 8 + 1, 3, n, m + 1, 3]
theorem begin_cnt (c : Nat) (l : List Wr) (hn : l.length ≤ 96) (hc : 8 * c + 208 ≤ 65536) (q : Nat) (hq : q < 7) : cntP (q : Int) (beginL (8 * (c : Int)) l) = (wantL l.length (linesOf (lineL l)).length)[q]?.getD 0 := by
  unfold beginL applyL markL
  rw [cntP_append, cntP_append, cntP_append, cntP_both, cntP_both, cntP_both, cntP_both, ownW_len, recL_len, lines_own c (recL l) (by rw [recL_len]; omega), lines_one _ _ (by omega) (by omega), lines_one _ _ (by omega) (by omega), recL_len]
  match q, hq with
  | 0, _ => rfl
  | 1, _ => simp [wantL]
  | 2, _ => simp [wantL]
  | 3, _ => simp [wantL]
  | 4, _ => simp [wantL]
  | 5, _ => simp [wantL]
  | 6, _ => simp [wantL]
theorem begin_len (c : Nat) (l : List Wr) (hn : l.length ≤ 96) (hc : 8 * c + 208 ≤ 65536) : (beginL (8 * (c : Int)) l).length = (wantL l.length (linesOf (lineL l)).length).sum := by
  have hb : ∀ p q (l : List Wr), (bothL p q l).length = l.length + ((linesOf (lineL l)).length + 1) := fun p q l => by unfold bothL; rw [List.length_append, storeL_len, settle_len]
  unfold beginL applyL markL
  rw [List.length_append, List.length_append, List.length_append, hb, hb, hb, hb, ownW_len, recL_len, lines_own c (recL l) (by rw [recL_len]; omega), lines_one _ _ (by omega) (by omega), lines_one _ _ (by omega) (by omega), recL_len]
  simp [wantL]
  omega
end Go.Proofs.Ytkopfnldgnkkoaa
