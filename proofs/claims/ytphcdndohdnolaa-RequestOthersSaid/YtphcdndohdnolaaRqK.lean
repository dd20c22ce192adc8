/-
  MAPS FROM BYTES, ENTRY BY ENTRY: a map that a literal makes.
-/
import Derived.Maps.OwnOps
import Derived.Test.YtphcdndohdnolaaRqF
namespace Go.Proofs.Ytphcdndohdnolaa
open Go.RowKit Go.Shelf
set_option linter.unusedVariables false

/-- Block M is a map of these entries. -/
def KMap (w : World) (M : Nat) (l : List (Int × Value)) : Prop :=
  ∃ es c, w.heap[M]? = some (.map es c) ∧ es.toList.map (fun e => (e.key, e.val)) = l.map (fun x => (Value.int .u8 x.1, x.2))
theorem KMap.made (w : World) : KMap (w.alloc (.map #[] 0)) w.heap.size [] := ⟨#[], 0, (MapKept.heap_alloc w _).1, rfl⟩
theorem KMap.lt {w : World} {M : Nat} {l : List (Int × Value)} (h : KMap w M l) : M < w.heap.size := by
  obtain ⟨es, c, h, _⟩ := h
  exact (Array.getElem?_eq_some_iff.1 h).1
theorem KMap.block {w w' : World} {M : Nat} {l : List (Int × Value)} (h : KMap w M l) (hb : w'.heap[M]? = w.heap[M]?) : KMap w' M l := by
  obtain ⟨es, c, h1, h2⟩ := h
  exact ⟨es, c, hb.trans h1, h2⟩
theorem KMap.nw {w w' : World} {M : Nat} {l : List (Int × Value)} (h : KMap w M l) (k : Nw w w') : KMap w' M l := h.block (k.b.block M h.lt)
theorem findNow_none (q : IntKind) (x : Int) : ∀ (es : List MapEntry) (i : Nat), (∀ e ∈ es, ∃ j, e.key = .int q j ∧ j ≠ x) → Instr.findNow (.int q) (.int q x) es i = some none
  | [], _, _ => rfl
  | e :: es, i, h => by
    obtain ⟨j, hj, hne⟩ := h e List.mem_cons_self
    unfold Instr.findNow
    rw [hj]
    simp only [Instr.sameNow, if_true]
    rw [show (x == j) = false from by simpa using fun hh => hne hh.symm]
    exact findNow_none q x es (i + 1) (fun e he => h e (List.mem_cons_of_mem _ he))
theorem findNow_map (x : Int) : ∀ (es : List MapEntry) (l : List (Int × Value)) (i : Nat), es.map (fun e => (e.key, e.val)) = l.map (fun y => (Value.int .u8 y.1, y.2)) →
    ∃ r, Instr.findNow (.int .u8) (.int .u8 x) es i = some r ∧ r.map (·.2) = (l.find? (fun y => y.1 == x)).map (·.2)
  | [], [], _, _ => ⟨none, rfl, rfl⟩
  | [], _ :: _, _, h => by cases h
  | _ :: _, [], _, h => by cases h
  | e :: es, y :: l, i, h => by
    simp only [List.map_cons, List.cons.injEq, Prod.mk.injEq] at h
    obtain ⟨⟨h1, h2⟩, h3⟩ := h
    unfold Instr.findNow
    rw [h1]
    simp only [Instr.sameNow, if_true]
    by_cases hx : x = y.1
    · subst hx
      simp only [beq_self_eq_true]
      exact ⟨_, rfl, by simp [h2]⟩
    · rw [show (x == y.1) = false from by simpa using hx]
      simp only
      obtain ⟨r, hr, hm⟩ := findNow_map x es l (i + 1) h3
      refine ⟨r, hr, ?_⟩
      rw [hm, List.find?_cons_of_neg (by simpa using fun hh => hx hh.symm)]
theorem KMap.insert {P : Program} {w : World} {M : Nat} {l : List (Int × Value)} {t k e : TypeId} (h : KMap w M l) (ht : P.underlying t = some (.map k e)) (hk : P.underlying k = some (.int .u8)) (x : Int) (hx : ∀ y ∈ l, y.1 ≠ x) (v : Value) :
    ∃ w', (Instr.mapUpdate t (.map (some M)) (.int .u8 x) v).run P w = .ok () w' ∧ KMap w' M (l ++ [(x, v)]) ∧ w.grownBy w' (some M) := by
  obtain ⟨es, c, hb, hm⟩ := h
  have hn : Instr.findNow (.int .u8) (.int .u8 x) es.toList 0 = some none := by
    refine findNow_none .u8 x _ 0 (fun e he => ?_)
    have : (e.key, e.val) ∈ es.toList.map (fun e => (e.key, e.val)) := List.mem_map.2 ⟨e, he, rfl⟩
    rw [hm, List.mem_map] at this
    obtain ⟨y, hy, he2⟩ := this
    simp only [Prod.mk.injEq] at he2
    exact ⟨y.1, he2.1.symm, hx y hy⟩
  refine ⟨{ w with heap := w.heap.setIfInBounds M (.map (es.push ⟨.int .u8 x, v, c⟩) (c + 1)) }, ?_, ⟨es.push ⟨.int .u8 x, v, c⟩, c + 1, ?_, ?_⟩, ?_⟩
  · simp [Instr.mapUpdate, Instr.findKey, run_underlying ht, run_underlying hk, MapKept.run_getObj_map hb, MapKept.run_checkKey hk (k := .int .u8 x) (by simp [MapKept.IsKey]), hn, MapKept.run_setObj_map _ hb, Result.andThen]
  · have := (Array.getElem?_eq_some_iff.1 hb).1
    simp [this]
  · simp [hm]
  · refine ⟨rfl, rfl, rfl, by simp, fun i _ hi => ?_⟩
    have hne : M ≠ i := fun hh => hi (by rw [hh])
    simp [hne]
theorem KMap.lookup {P : Program} {w : World} {M : Nat} {l : List (Int × Value)} {t k e : TypeId} (h : KMap w M l) (ht : P.underlying t = some (.map k e)) (hk : P.underlying k = some (.int .u8)) (z : Value) (hz : (zeroValue e).run P w = .ok z w) (x : Int) (ok : Bool) :
    (Instr.lookup t (.map (some M)) (.int .u8 x) ok).run P w = .ok (if ok then .tuple #[((l.find? (fun y => y.1 == x)).map (·.2)).getD z, .bool (l.find? (fun y => y.1 == x)).isSome] else ((l.find? (fun y => y.1 == x)).map (·.2)).getD z) w := by
  obtain ⟨es, c, hb, hm⟩ := h
  obtain ⟨r, hr, hv⟩ := findNow_map x es.toList l 0 hm
  have hs : r.isSome = (l.find? (fun y => y.1 == x)).isSome := by
    have := congrArg Option.isSome hv
    simpa using this
  rw [← hv, ← hs]
  cases r with
  | none => simp [Instr.lookup, Instr.findKey, run_underlying ht, run_underlying hk, MapKept.run_getObj_map hb, MapKept.run_checkKey hk (k := .int .u8 x) (by simp [MapKept.IsKey]), hr, hz, Result.andThen]
  | some y => simp [Instr.lookup, Instr.findKey, run_underlying ht, run_underlying hk, MapKept.run_getObj_map hb, MapKept.run_checkKey hk (k := .int .u8 x) (by simp [MapKept.IsKey]), hr, Result.andThen]
theorem wpList_insert {P : Program} (w : World) {ops : Array Oper} {rest : List Oper} {o : Oper} {a : Act} {Q : Exit → Act → World → Prop}
    (hg : o.guard = none) (m x v : Operand) (t : TypeId) (hop : o.op = Op.insert t m x v) (k e : TypeId) (ht : P.underlying t = some (.map k e)) (hk : P.underlying k = some (.int .u8)) (M : Nat) (l : List (Int × Value))
    (hm : a.eval m = .map (some M)) (h : KMap w M l) (key : Int) (hx : a.eval x = .int .u8 key) (val : Value) (hv : a.eval v = val) (hne : ∀ y ∈ l, y.1 ≠ key)
    (hK : ∀ w', KMap w' M (l ++ [(key, val)]) → w.grownBy w' (some M) → wpList P ops Q rest (a.put o.dst undef) w') : wpList P ops Q (o :: rest) a w := by
  refine wpList_plain hg fun K' hK' => ?_
  obtain ⟨w', hrun, r1, r2⟩ := h.insert ht hk key hne val
  unfold Oper.wp
  simp [execOp, hop, hm, hx, hv, hrun, Result.andThen]
  exact hK' _ _ (hK w' r1 r2)

end Go.Proofs.Ytphcdndohdnolaa
