/-
  DEVICES: the words that are loose, gone through.
-/
import Derived.Test.YtkopfnldgnkkoaaDvB
namespace Go.Proofs.Ytkopfnldgnkkoaa
open Go.RowKit Go.Shelf
set_option linter.unusedVariables false
attribute [local go_sem] Oper.semAt_some

/-- Of the first k words those that were loose. -/
def looseL (m : Nat) (fl : Nat → Bool) (k : Nat) : List (Fin m) := ((List.finRange m).take k).filter fun x => fl x.1
theorem looseL_zero (m : Nat) (fl : Nat → Bool) : looseL m fl 0 = [] := by simp [looseL]
theorem looseL_succ {m : Nat} {fl : Nat → Bool} {k : Nat} (h : k < m) : looseL m fl (k + 1) = if fl k then looseL m fl k ++ [⟨k, h⟩] else looseL m fl k := by
  unfold looseL
  rw [List.take_succ_eq_append_getElem (by simpa using h), List.filter_append]
  simp only [List.getElem_finRange]
  by_cases hf : fl k = true
  · rw [if_pos hf]; simp [hf]
  · rw [if_neg hf]; simp [hf]
theorem looseL_lt {m : Nat} {fl : Nat → Bool} {k : Nat} : ∀ x ∈ looseL m fl k, x.1 < k := by
  intro x hx
  unfold looseL at hx
  have := (List.mem_filter.1 hx).1
  obtain ⟨i, hi, he⟩ := List.getElem_of_mem this
  rw [List.length_take] at hi
  rw [List.getElem_take, List.getElem_finRange] at he
  subst he
  simp; omega
theorem looseL_length {m : Nat} {fl : Nat → Bool} {k : Nat} : (looseL m fl k).length ≤ k := by
  unfold looseL
  refine Nat.le_trans (List.length_filter_le _ _) ?_
  rw [List.length_take]; omega
theorem looseL_mem {m : Nat} {fl : Nat → Bool} (x : Fin m) : x ∈ looseL m fl m ↔ fl x.1 = true := by
  unfold looseL
  rw [List.take_of_length_le (by simp)]
  simp
theorem looseL_nodup (m : Nat) (fl : Nat → Bool) (k : Nat) : (looseL m fl k).Nodup := by
  unfold looseL
  exact ((List.nodup_finRange m).sublist (List.take_sublist _ _)).sublist List.filter_sublist
def wE (b o m : Nat) (x : Fin m) : Array Value := #[.pointer (some ⟨b, o * 6 + x.1 * 6, none⟩)]

set_option maxRecDepth 100000 in
set_option maxHeartbeats 2000000 in
theorem loose_stops (F : Fence) (n : Nat) (h7 : F.fn 81) (hro : F.round = none) (hn : 1 ≤ n) (B b o m cap : Nat) (hm : m ≤ 65536) (fl : Nat → Bool) (I : List (Fin m) → World → Prop)
    (hIb : ∀ pre W, I pre W → W.cell? ⟨B, 0, none⟩ = some (.slice (some ⟨b, o * 6, none⟩) m cap))
    (hIf : ∀ pre W (k : Nat), k < m → I pre W → (∀ x ∈ pre, x.1 < k) → W.cell? ⟨b, o * 6 + k * 6 + 2, none⟩ = some (.bool (fl k))) (w : World) :
    SeqJ F n Try.prog 81 #[.pointer (some ⟨B, 0, none⟩)] (wE b o m) I (fun xs => xs = looseL m fl m) (fun _ => True) m w := by
  intro l J Jx W hW hJ hJx hJI hY h0
  refine callsIn_of_wp Try.func81 rfl h7 ?_ hro
  simp only [Try.ntmps81, List.size_toArray, List.length_cons, List.length_nil, Nat.reduceAdd, Nat.reduceSub, Array.replicate_succ, Array.replicate_zero, List.push_toArray, List.append_toArray, List.nil_append, List.cons_append]
  have hb0 := hIb _ _ (hJI _ _ h0)
  gi_wp2
  gi_loopw [6] (fun i wr => ∃ k : Nat, k ≤ m ∧ i = .int .i64 k ∧ J (looseL m fl k) wr) (fun i _ => m - (intOf i).toNat)
  case atStart => exact ⟨0, Nat.zero_le _, rfl, by rw [looseL_zero]; exact h0⟩
  case round =>
    clear hb0
    obtain ⟨k, hk, rfl, hJs⟩ := hrel
    have hbk := hIb _ _ (hJI _ _ hJs)
    by_cases hlt : k < m
    · have hfk := hIf _ _ k hlt (hJI _ _ hJs) looseL_lt
      have HL := Lib.hid (looseL_succ (fl := fl) hlt)
      cases hf : fl k
      · rw [hf] at hfk
        have HF := Lib.hid hf
        have HJ := Lib.hid hJs
        clear hf hJs
        gi_wp2
        refine ⟨fun _ h => (by cases h), ?_⟩
        gi_wp2
        go_roundw
        case rel => exact ⟨k + 1, by omega, by go_num, by rw [HL.out, if_neg (by rw [HF.out]; simp)]; exact HJ.out⟩
        case measure => simp [intOf]; omega
      · rw [hf] at hfk
        have HF := Lib.hid hf
        obtain ⟨fn, tmps, assign, body, hy, hR⟩ := hY _ ⟨k, hlt⟩ wr hJs (by have := looseL_length (m := m) (fl := fl) (k := k); omega)
        unfold wE at hy
        dsimp only at hy
        have HR := Lib.hid hR
        clear hf hJs hR
        gi_wp2
        refine HR.out.mono ?_
        rintro e W3 (⟨rfl, hJ3⟩ | ⟨rfl, hJx3⟩)
        · have HJ := Lib.hid hJ3
          clear hJ3
          gi_wp2
          go_roundw
          case rel => exact ⟨k + 1, by omega, by go_num, by rw [HL.out, if_pos HF.out]; exact HJ.out⟩
          case measure => simp [intOf]; omega
        · gi_wp2
          refine bodyPost_ret (results_none rfl _ _ _) rfl ?_
          exact ⟨⟨_, rfl⟩, .inr ⟨_, trivial, hJx3⟩⟩
    · obtain rfl : k = m := by omega
      have HJ := Lib.hid hJs
      clear hJs
      gi_wp2
      go_end0
      exact ⟨⟨_, rfl⟩, .inl ⟨_, rfl, HJ.out⟩⟩
set_option maxHeartbeats 1000000 in
theorem loose_in (F : Fence) (n : Nat) (h5 : F.fn 61) (hro : F.round = none) (a : Option Addr) (len cap : Nat) (w : World) :
    CallsIn F n Try.prog 61 #[.slice a len cap] w fun e w' => e = .returned (.func (.func 81) #[] #[.pointer (some ⟨w.heap.size, 0, none⟩)]) ∧ w' = w.alloc (.cells #[.slice a len cap] 115) := by
  refine callsIn_of_wp Try.func61 rfl h5 ?_ hro
  simp only [Try.ntmps61, List.size_toArray, List.length_cons, List.length_nil, Nat.reduceAdd, Nat.reduceSub, Array.replicate_succ, Array.replicate_zero, List.push_toArray, List.append_toArray, List.nil_append, List.cons_append]
  gi_wp2
  go_ret
  exact ⟨rfl, rfl⟩

end Go.Proofs.Ytkopfnldgnkkoaa
