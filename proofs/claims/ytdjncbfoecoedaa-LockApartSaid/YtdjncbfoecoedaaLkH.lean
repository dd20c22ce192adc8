/-
  LOCKS: ready, gone through.
-/
import Derived.Test.YtdjncbfoecoedaaLkG
import Derived.Test.YtdjncbfoecoedaaRangeR
namespace Go.Proofs.Ytdjncbfoecoedaa
open Go.RowKit Go.Shelf
set_option linter.unusedVariables false
attribute [local go_sem] Oper.semAt_some

/-- Of the first k those that are marked. -/
def looseL (m : Nat) (fl : Nat → Bool) (k : Nat) : List (Fin m) := ((List.finRange m).take k).filter fun x => fl x.1
theorem looseL_zero (m : Nat) (fl : Nat → Bool) : looseL m fl 0 = [] := by simp [looseL]
theorem looseL_succ {m : Nat} {fl : Nat → Bool} {k : Nat} (h : k < m) : looseL m fl (k + 1) = if fl k then looseL m fl k ++ [⟨k, h⟩] else looseL m fl k := by
  unfold looseL
  rw [List.take_succ_eq_append_getElem (by simpa using h), List.filter_append]
  simp only [List.getElem_finRange]
  by_cases hf : fl k = true
  · rw [if_pos hf]; simp [hf]
  · rw [if_neg hf]; simp [hf]
theorem looseL_lt {m : Nat} {fl : Nat → Bool} {k : Nat} : ∀ x ∈ looseL m fl k, x.1 < k := by
  intro x hx
  unfold looseL at hx
  have := (List.mem_filter.1 hx).1
  obtain ⟨i, hi, he⟩ := List.getElem_of_mem this
  rw [List.length_take] at hi
  rw [List.getElem_take, List.getElem_finRange] at he
  subst he
  simp; omega
theorem looseL_length {m : Nat} {fl : Nat → Bool} {k : Nat} : (looseL m fl k).length ≤ k := by
  unfold looseL
  refine Nat.le_trans (List.length_filter_le _ _) ?_
  rw [List.length_take]; omega
theorem looseL_mem {m : Nat} {fl : Nat → Bool} (x : Fin m) : x ∈ looseL m fl m ↔ fl x.1 = true := by
  unfold looseL
  rw [List.take_of_length_le (by simp)]
  simp
theorem looseL_nodup (m : Nat) (fl : Nat → Bool) (k : Nat) : (looseL m fl k).Nodup := by
  unfold looseL
  exact ((List.nodup_finRange m).sublist (List.take_sublist _ _)).sublist List.filter_sublist

/-- Is a lock free, and wanted? -/
def rdyB (s : Nat → Lk) (i : Nat) : Bool := ((s i).h == 0) && decide (0 < (s i).q.length)
def rE (t : Nat) (x : Fin 70) : Array Value := #[.pointer (some ⟨t, 1 + x.1 * 2, none⟩)]
def rR (s : Nat → Lk) (pre : List (Fin 70)) (x : Fin 70) : Prop := rdyB s x.1 = true ∧ pre = looseL 70 (rdyB s) x.1
set_option maxRecDepth 100000 in
set_option maxHeartbeats 4000000 in
theorem ready_stops (F : Fence) (n : Nat) (h7 : F.fn 28) (hro : F.round = none) (hn : 1 ≤ n) (B t : Nat) (s : Nat → Lk) (I : List (Fin 70) → World → Prop)
    (hIb : ∀ pre W, I pre W → W.cell? ⟨B, 0, none⟩ = some (.pointer (some ⟨t, 0, none⟩)))
    (hIh : ∀ pre W (k : Nat), k < 70 → I pre W → (∀ x ∈ pre, x.1 < k) → W.cell? ⟨t, 1 + k * 2, none⟩ = some (.int .i64 (s k).h))
    (hIq : ∀ pre W (k : Nat), k < 70 → I pre W → (∀ x ∈ pre, x.1 < k) → ∃ a c, W.cell? ⟨t, 1 + k * 2 + 1, none⟩ = some (.slice a (s k).q.length c)) (w : World) :
    SeqR F n Try.prog 28 #[.pointer (some ⟨B, 0, none⟩)] (rE t) I (fun xs => xs = looseL 70 (rdyB s) 70) (fun _ => True) (rR s) w := by
  intro l J Jx W hW hJ hJx hJI hY h0
  refine callsIn_of_wp Try.func28 rfl h7 ?_ hro
  simp only [Try.ntmps28, List.size_toArray, List.length_cons, List.length_nil, Nat.reduceAdd, Nat.reduceSub, Array.replicate_succ, Array.replicate_zero, List.push_toArray, List.append_toArray, List.nil_append, List.cons_append]
  have HB := Lib.hid (fun pre W h => hIb pre W (hJI pre W h))
  have HH := Lib.hid (fun pre W k hk h => hIh pre W k hk (hJI pre W h))
  have HQ := Lib.hid (fun pre W k hk h => hIq pre W k hk (hJI pre W h))
  have HY := Lib.hid hY
  clear hIb hIh hIq hY
  gi_wp2
  gi_loopw [5] (fun i wr => ∃ k : Nat, k ≤ 70 ∧ i = .int .i64 k ∧ J (looseL 70 (rdyB s) k) wr) (fun i _ => 70 - (intOf i).toNat)
  case atStart => exact ⟨0, Nat.zero_le _, rfl, by rw [looseL_zero]; exact h0⟩
  case round =>
    obtain ⟨k, hk, rfl, hJs⟩ := hrel
    by_cases hlt : k < 70
    · have hbk := HB.out _ _ hJs
      have hhk := HH.out _ _ k hlt hJs looseL_lt
      obtain ⟨qa, qc, hqk⟩ := HQ.out _ _ k hlt hJs looseL_lt
      have HL := Lib.hid (looseL_succ (fl := rdyB s) hlt)
      have HJ := Lib.hid hJs
      clear hJs
      by_cases hh : (s k).h = 0
      · by_cases hq : 0 < (s k).q.length
        · have HF := Lib.hid (show rdyB s k = true by rw [rdyB, hh, decide_eq_true hq]; rfl)
          have hq' : (0 : Int) < ((s k).q.length : Int) := by omega
          obtain ⟨fn, tmps, assign, body, hy, hR⟩ := HY.out _ ⟨k, hlt⟩ wr ⟨HF.out, rfl⟩ HJ.out
          unfold rE at hy
          dsimp only at hy
          have HR := Lib.hid hR
          rw [hh] at hhk
          have HHH := Lib.hid hh
          clear hR hh
          gi_wp2
          refine HR.out.mono ?_
          rintro e W3 (⟨rfl, hJ3⟩ | ⟨rfl, hJx3⟩)
          · have HJ := Lib.hid hJ3
            clear hJ3
            gi_wp2
            go_roundw
            case rel => exact ⟨k + 1, by omega, by go_num, by rw [HL.out, if_pos HF.out]; exact HJ.out⟩
            case measure => simp [intOf]; omega
          · gi_wp2
            refine bodyPost_ret (results_none rfl _ _ _) rfl ?_
            exact ⟨⟨_, rfl⟩, .inr ⟨_, trivial, hJx3⟩⟩
        · have HF := Lib.hid (show ¬ rdyB s k = true by rw [rdyB, decide_eq_false hq]; simp)
          have hq' : ¬ (0 : Int) < ((s k).q.length : Int) := by omega
          rw [hh] at hhk
          clear hh
          gi_wp2
          refine ⟨fun _ h => (by cases h), ?_⟩
          gi_wp2
          go_roundw
          case rel => exact ⟨k + 1, by omega, by go_num, by rw [HL.out, if_neg HF.out]; exact HJ.out⟩
          case measure => simp [intOf]; omega
      · have HF := Lib.hid (show ¬ rdyB s k = true by rw [rdyB]; simp [hh])
        have hhb : ((s k).h == 0) = false := by rw [beq_eq_false_iff_ne]; exact hh
        clear hh
        gi_wp2
        refine ⟨fun _ h => (by cases h), ?_⟩
        gi_wp2
        go_roundw
        case rel => exact ⟨k + 1, by omega, by go_num, by rw [HL.out, if_neg HF.out]; exact HJ.out⟩
        case measure => simp [intOf]; omega
    · obtain rfl : k = 70 := by omega
      have HJ := Lib.hid hJs
      clear hJs
      gi_wp2
      go_end0
      exact ⟨⟨_, rfl⟩, .inl ⟨_, rfl, HJ.out⟩⟩
set_option maxHeartbeats 1000000 in
theorem ready_in (F : Fence) (n : Nat) (h5 : F.fn 20) (hro : F.round = none) (t : Nat) (w : World) :
    CallsIn F n Try.prog 20 #[.pointer (some ⟨t, 0, none⟩)] w fun e w' => e = .returned (.func (.func 28) #[] #[.pointer (some ⟨w.heap.size, 0, none⟩)]) ∧ w' = w.alloc (.cells #[.pointer (some ⟨t, 0, none⟩)] 24) := by
  refine callsIn_of_wp Try.func20 rfl h5 ?_ hro
  simp only [Try.ntmps20, List.size_toArray, List.length_cons, List.length_nil, Nat.reduceAdd, Nat.reduceSub, Array.replicate_succ, Array.replicate_zero, List.push_toArray, List.append_toArray, List.nil_append, List.cons_append]
  gi_wp2
  go_ret
  exact ⟨rfl, rfl⟩

end Go.Proofs.Ytdjncbfoecoedaa
