/-
  THE WALKS OF slices.Chunk over bytes.
-/
import Derived.Test.YtciagdechmkgjaaOctG
namespace Go.Proofs.Ytciagdechmkgjaa
open Go.RowKit Go.Shelf
set_option linter.unusedVariables false
attribute [local go_sem] Oper.semAt_some

/-- Nothing below n₀ is turned, but block x. -/
structure KpU (n₀ x : Nat) (w w' : World) : Prop where
  os : w'.os = w.os
  tape : w'.tape = w.tape
  output : w'.output = w.output
  size : w.heap.size ≤ w'.heap.size
  block : ∀ k, k < n₀ → k ≠ x → w'.heap[k]? = w.heap[k]?
theorem KpU.refl (n₀ x : Nat) (w : World) : KpU n₀ x w w := ⟨rfl, rfl, rfl, Nat.le_refl _, fun _ _ _ => rfl⟩
theorem KpU.trans {n₀ x : Nat} {a b c : World} (h : KpU n₀ x a b) (k : KpU n₀ x b c) : KpU n₀ x a c :=
  ⟨k.os.trans h.os, k.tape.trans h.tape, k.output.trans h.output, Nat.le_trans h.size k.size, fun i hi hn => (k.block i hi hn).trans (h.block i hi hn)⟩
theorem KpU.drew {n₀ x : Nat} {w : World} : KpU n₀ x w w.drew := ⟨rfl, rfl, rfl, Nat.le_refl _, fun _ _ _ => rfl⟩
theorem KpU.of_below {n₀ x B : Nat} {a b : World} (h : Below B a b) (hB : n₀ ≤ B) : KpU n₀ x a b := ⟨h.os, h.tape, h.output, h.size, fun k hk _ => h.block k (by omega)⟩
theorem KpU.cell {n₀ x : Nat} {a b : World} (h : KpU n₀ x a b) {g o : Nat} (hg : g < n₀) (hx : g ≠ x) : b.cell? ⟨g, o, none⟩ = a.cell? ⟨g, o, none⟩ := World.cell?_of_block (w := a) (h.block g hg hx)
theorem KpU.set {n₀ x : Nat} (w : World) (v : Value) : KpU n₀ x w (w.setCell ⟨x, 0, none⟩ v) := ⟨rfl, rfl, rfl, by simp [World.setCell], fun k _ hn => Below.heap_setCell w ⟨x, 0, none⟩ v k hn⟩
theorem KpU.putObj {n₀ x B : Nat} (hB : n₀ ≤ B) (W : World) (l : Nat) (o : Obj) (hl : B ≤ l) : KpU n₀ x W (W.putObj l o) := ⟨rfl, rfl, rfl, by simp, fun k hk _ => World.putObj_heap_other (by omega)⟩

/-- How many pieces of eight. -/
def qOf (len : Nat) : Nat := (len + 7) / 8
def chL (q k : Nat) : List (Fin q) := (List.finRange q).take k
theorem chL_snoc {q k : Nat} (h : k < q) : chL q (k + 1) = chL q k ++ [⟨k, h⟩] := by
  unfold chL
  rw [List.take_succ_eq_append_getElem (by simpa using h)]
  simp
theorem chL_length {q k : Nat} (h : k ≤ q) : (chL q k).length = k := by unfold chL; simp [h]
def chE (b off len : Nat) (x : Fin (qOf len)) : Array Value := #[.slice (some ⟨b, off + 8 * x.1, none⟩) (min 8 (len - 8 * x.1)) (min 8 (len - 8 * x.1))]

set_option maxRecDepth 100000 in
set_option maxHeartbeats 2000000 in
theorem chunk1_in (F : Fence) (n : Nat) (h7 : F.fn 35) (hro : F.round = none) (hn : 1 ≤ n) (l B1 B2 n₀ x b off len cap : Nat) (hreach : len ≤ 140737488355000) (hcap : len ≤ cap) (hB1 : B1 < n₀) (hB1x : B1 ≠ x) (hB2 : B2 < n₀) (hB2x : B2 ≠ x)
    (J Jx : List (Fin (qOf len)) → World → Prop) (hJd : ∀ pre W, J pre W → J pre W.drew)
    (hY : ∀ pre (y : Fin (qOf len)) W, J pre W → pre.length < qOf len → YieldAt F (n - 1) Try.prog l (chE b off len y) W fun e W' =>
      (e = .returned (.bool true) ∧ J (pre ++ [y]) W' ∧ KpU n₀ x W W') ∨ (e = .returned (.bool false) ∧ Jx (pre ++ [y]) W'))
    (W : World) (hc1 : W.cell? ⟨B1, 0, none⟩ = some (.slice (some ⟨b, off, none⟩) len cap)) (hc2 : W.cell? ⟨B2, 0, none⟩ = some (.int .i64 8)) (h0 : J [] W) :
    CallsIn F n Try.prog 35 #[.func (.yield l) #[] #[], .pointer (some ⟨B1, 0, none⟩), .pointer (some ⟨B2, 0, none⟩)] W fun e W' => (∃ v, e = .returned v) ∧
      ((∃ ys, ys = chL (qOf len) (qOf len) ∧ J ys W') ∨ (∃ pre, True ∧ Jx pre W')) := by
  refine callsIn_of_wp Try.func35 rfl h7 ?_ hro
  simp only [Try.ntmps35, List.size_toArray, List.length_cons, List.length_nil, Nat.reduceAdd, Nat.reduceSub, Array.replicate_succ, Array.replicate_zero, List.push_toArray, List.append_toArray, List.nil_append, List.cons_append]
  gi_wp2
  gi_loopw [4] (fun i wr => ∃ k m : Nat, k ≤ qOf len ∧ Hid (m = 8 * k) ∧ i = .int .i64 m ∧ J (chL (qOf len) k) wr ∧ KpU n₀ x W wr)
    (fun i _ => len + 8 - (intOf i).toNat)
  case atStart => exact ⟨0, 0, Nat.zero_le _, rfl, rfl, h0, KpU.refl _ _ _⟩
  case round =>
    obtain ⟨k, m, hk, HM, rfl, hJs, hkp⟩ := hrel
    have g1 := (hkp.cell (o := 0) hB1 hB1x).trans hc1
    have g2 := (hkp.cell (o := 0) hB2 hB2x).trans hc2
    by_cases hlt : m < len
    · have hkq : k < qOf len := by have := HM.out; unfold qOf; omega
      obtain ⟨e8, he8⟩ : ∃ e8 : Nat, min 8 (len - m) = e8 := ⟨_, rfl⟩
      have hmin : min (8 : Int) ((len - m : Nat) : Int) = (e8 : Int) := by omega
      have htn : ((m : Int) + (e8 : Int)).toNat = m + e8 := by omega
      have hts : m + e8 - m = e8 := by omega
      have h1 : 1 ≤ e8 := by omega
      have h2 : e8 ≤ len - m := by omega
      have h3 : e8 ≤ 8 := by omega
      have hcm : ¬ cap = m := by omega
      have hYY := Lib.hid (hY _ ⟨k, hkq⟩ wr.drew (hJd _ _ hJs) (by rw [chL_length hk]; exact hkq))
      have hE : chE b off len ⟨k, hkq⟩ = #[.slice (some ⟨b, off + m, none⟩) e8 e8] := by unfold chE; dsimp only; rw [← HM.out, he8]
      rw [hE] at hYY
      obtain ⟨fn, tmps, assign, body, hy, hR⟩ := hYY.out
      have HR := Lib.hid hR
      clear he8 hE hR hYY
      gi_wp2
      gi_region
      all_goals
        gi_wp2
        refine HR.out.mono ?_
        rintro e W3 (⟨rfl, hJ3, hk3⟩ | ⟨rfl, hJx3⟩)
        · have g3 : W3.cell? ⟨B2, 0, none⟩ = some (.int .i64 8) := (hk3.cell (o := 0) hB2 hB2x).trans g2
          gi_wp2
          go_roundw
          case rel => exact ⟨k + 1, m + 8, by omega, by have := HM.out; show m + 8 = 8 * (k + 1); omega, by go_num, by rw [chL_snoc hkq]; exact hJ3, (hkp.trans KpU.drew).trans hk3⟩
          case measure => simp [intOf]; omega
        · gi_wp2
          refine bodyPost_ret (results_none rfl _ _ _) rfl ?_
          exact ⟨⟨_, rfl⟩, .inr ⟨_, trivial, hJx3⟩⟩
    · have hkq : k = qOf len := by have := HM.out; unfold qOf at *; omega
      rw [hkq] at hJs
      have HQ := Lib.hid hkq
      clear hkq
      gi_wp2
      go_end0
      exact ⟨⟨_, rfl⟩, .inl ⟨_, rfl, hJs⟩⟩

end Go.Proofs.Ytciagdechmkgjaa
