/-
  THE WALKS OF grommetref03.Same and of the law LayoutFormats.
-/
import Derived.Test.YteaokdkfpafmaaaDoorLayP
import Derived.Test.YteaokdkfpafmaaaDoorLayJ
namespace Go.Proofs.YteaokdkfpafmaaaDoor
open Go.RowKit

/-- v is handed back; some draws have gone by. -/
def Quietly (v : Value) (w : World) (e : Ending) (w' : World) : Prop := e = .returned v ∧ ∃ n, w' = w.drewN n

set_option maxHeartbeats 1000000 in
theorem same_no_len (a1 : Option Addr) (n1 c1 : Nat) (a2 : Option Addr) (n2 c2 : Nat) (h : n1 ≠ n2) (w : World) :
    Calls Tryd.prog 33 #[.slice a1 n1 c1, .slice a2 n2 c2] w (Quietly (.bool false) w) := by
  have hd : ((n1 : Int) != (n2 : Int)) = true := by rw [bne_iff_ne]; omega
  clear h
  go_enter Tryd.func33, Tryd.ntmps33
  go_wp2_with fail
  go_ret
  exact ⟨rfl, 0, rfl⟩

set_option maxHeartbeats 2000000 in
theorem same_len (a1 : Option Addr) (n c1 : Nat) (a2 : Option Addr) (c2 : Nat) (xs ys : List Int) (hx : xs.length = n) (hy : ys.length = n) (hn : n * 8 ≤ 140737488351232) (B : Nat) (w : World) (hI : Ints B .u64 w a1 xs) (hJ : Ints B .u64 w a2 ys) :
    Calls Tryd.prog 33 #[.slice a1 n c1, .slice a2 n c2] w (Quietly (.bool (decide (xs = ys))) w) := by
  have HX := Lib.hid hx
  have HY := Lib.hid hy
  clear hx hy
  go_enter Tryd.func33, Tryd.ntmps33
  go_wp2_with fail
  go_loopw [5] (fun i wr => ∃ k : Nat, k ≤ n ∧ i = .int .i64 k ∧ xs.take k = ys.take k ∧ ∃ m, wr = w.drewN m) (fun i _ => n - (intOf i).toNat)
  case atStart => exact ⟨0, by omega, rfl, rfl, 0, rfl⟩
  case round =>
    obtain ⟨k, hk, rfl, htk, m, hm⟩ := hrel
    have HT := Lib.hid htk
    have HMm := Lib.hid hm
    clear htk hm
    by_cases hlt : k < n
    · obtain ⟨b1, o1, rfl, _, p1⟩ := hI.at (j := k) (by rw [HX.out]; exact hlt)
      obtain ⟨b2, o2, rfl, _, p2⟩ := hJ.at (j := k) (by rw [HY.out]; exact hlt)
      have q1 := (show wr.cell? ⟨b1, o1 + k, none⟩ = w.cell? ⟨b1, o1 + k, none⟩ from by rw [HMm.out]; rfl).trans p1
      have q2 := (show wr.cell? ⟨b2, o2 + k, none⟩ = w.cell? ⟨b2, o2 + k, none⟩ from by rw [HMm.out]; rfl).trans p2
      clear p1 p2 hI hJ
      obtain ⟨x, hx⟩ : ∃ x, xs[k]'(by rw [HX.out]; exact hlt) = x := ⟨_, rfl⟩
      obtain ⟨y, hy⟩ : ∃ y, ys[k]'(by rw [HY.out]; exact hlt) = y := ⟨_, rfl⟩
      rw [hx] at q1
      rw [hy] at q2
      have HXX := Lib.hid hx
      have HYY := Lib.hid hy
      clear hx hy
      by_cases he : x = y
      · have hd : (x != y) = false := by rw [he]; simp
        have HE := Lib.hid he
        clear he
        go_wp2_with fail
        go_quiet (fail)
        go_wp2_with fail
        go_roundw
        case rel => exact ⟨k + 1, by omega, by go_num, by rw [List.take_succ_eq_append_getElem (by rw [HX.out]; exact hlt), List.take_succ_eq_append_getElem (by rw [HY.out]; exact hlt), HT.out, HXX.out, HYY.out, HE.out], m + nq, by rw [HMm.out, World.drewN_drewN]⟩
        case measure => simp [intOf]; omega
      · have hd : (x != y) = true := by rw [bne_iff_ne]; exact he
        have HF := Lib.hid (show decide (xs = ys) = false by
          rw [decide_eq_false_iff_not]; intro hh; subst hh; exact he (HXX.out.symm.trans HYY.out))
        clear he
        go_wp2_with fail
        go_quiet (fail)
        go_wp2_with fail
        go_ret
        exact ⟨by rw [HF.out]; rfl, m + nq, by rw [HMm.out, World.drewN_drewN]⟩
    · have HF := Lib.hid (show decide (xs = ys) = true by
        rw [decide_eq_true_eq]
        have := HT.out
        rwa [List.take_of_length_le (by rw [HX.out]; omega), List.take_of_length_le (by rw [HY.out]; omega)] at this)
      go_wp2_with fail
      go_ret
      exact ⟨by rw [HF.out]; rfl, m, HMm.out⟩

theorem fmt_wf {g : G} (hm : mayP g) : ∀ n ∈ fmtL g, isU64 n := by
  obtain ⟨g1, g2, g3, g4, g5, g6⟩ := hm
  intro n hn
  unfold fmtL at hn
  have step : ∀ (l : List Int) (j : Nat) (v : Int), isU64 v → (∀ n ∈ l, isU64 n) → ∀ n ∈ l.set j v, isU64 n := fun l j v hv hl n hn => by
    rcases List.mem_or_eq_of_mem_set hn with h | h
    · exact hl n h
    · rw [h]; exact hv
  refine step _ _ _ ⟨by decide, by decide⟩ (step _ _ _ ⟨by decide, by decide⟩ (step _ _ _ ⟨by decide, by decide⟩ (step _ _ _ ⟨by decide, by decide⟩ (step _ _ _ ⟨by omega, by omega⟩ (step _ _ _ ⟨by omega, by omega⟩ (step _ _ _ ⟨by omega, by omega⟩ (step _ _ _ ⟨by decide, by decide⟩ ?_))))))) n hn
  intro n hn
  rw [List.eq_of_mem_replicate hn]
  exact ⟨by decide, by decide⟩

/-- The three lists that Of is asked. -/
structure Three (w : World) (A : Nat) (sa : Nat → Option Addr) (sl sc : Nat → Nat) (sz : Nat → List Int) : Prop where
  c : ∀ k, k < 3 → w.cell? ⟨A, k, none⟩ = some (.slice (sa k) (sl k) (sc k))
  i : ∀ k, k < 3 → Ints w.heap.size .u64 w (sa k) (sz k)
  l : ∀ k, k < 3 → (sz k).length = sl k
  m : ∀ k, k < 3 → sl k * 8 ≤ 140737488351232
  u : ∀ k, k < 3 → ∀ n ∈ sz k, isU64 n
theorem Three.at {w w' : World} {A : Nat} {sa : Nat → Option Addr} {sl sc : Nat → Nat} {sz : Nat → List Int} (h : Three w A sa sl sc sz) (k : At w w') : Three w' A sa sl sc sz :=
  ⟨fun j hj => (k.b.cell (p := ⟨A, j, none⟩) (cell_lt (h.c j hj)).1).trans (h.c j hj), fun j hj => ((h.i j hj).below k.b).mono k.b.size, h.l, h.m, h.u⟩
theorem Three.alloc {w : World} {A : Nat} {sa : Nat → Option Addr} {sl sc : Nat → Nat} {sz : Nat → List Int} (h : Three w A sa sl sc sz) (hl : Least w) (o : Obj) : Three (w.alloc o) A sa sl sc sz := h.at ((At.refl hl).alloc o)
def pick3 {α : Type} (x y z : α) : Nat → α | 0 => x | 1 => y | _ => z
theorem Three.new (w : World) (a0 a1 a2 : Option Addr) (l0 l1 l2 c0 c1 c2 : Nat) (z0 z1 z2 : List Int) (hi : Ints w.heap.size .u64 w a0 z0 ∧ Ints w.heap.size .u64 w a1 z1 ∧ Ints w.heap.size .u64 w a2 z2)
    (hl : z0.length = l0 ∧ z1.length = l1 ∧ z2.length = l2) (hm : l0 * 8 ≤ 140737488351232 ∧ l1 * 8 ≤ 140737488351232 ∧ l2 * 8 ≤ 140737488351232) (hu : (∀ n ∈ z0, isU64 n) ∧ (∀ n ∈ z1, isU64 n) ∧ ∀ n ∈ z2, isU64 n) (t : TypeId) :
    Three (w.alloc (.cells #[.slice a0 l0 c0, .slice a1 l1 c1, .slice a2 l2 c2] t)) w.heap.size (pick3 a0 a1 a2) (pick3 l0 l1 l2) (pick3 c0 c1 c2) (pick3 z0 z1 z2) := by
  have hb : Below w.heap.size w (w.alloc (.cells #[.slice a0 l0 c0, .slice a1 l1 c1, .slice a2 l2 c2] t)) := (Below.refl _ w).alloc (Nat.le_refl _) _
  refine ⟨fun k hk => ?_, fun k hk => ?_, fun k hk => ?_, fun k hk => ?_, fun k hk => ?_⟩
  · rw [World.cell?_alloc_new]
    match k, hk with | 0, _ => rfl | 1, _ => rfl | 2, _ => rfl
  · match k, hk with
    | 0, _ => exact (hi.1.below hb).mono hb.size
    | 1, _ => exact (hi.2.1.below hb).mono hb.size
    | 2, _ => exact (hi.2.2.below hb).mono hb.size
  · match k, hk with | 0, _ => exact hl.1 | 1, _ => exact hl.2.1 | 2, _ => exact hl.2.2
  · match k, hk with | 0, _ => exact hm.1 | 1, _ => exact hm.2.1 | 2, _ => exact hm.2.2
  · match k, hk with | 0, _ => exact hu.1 | 1, _ => exact hu.2.1 | 2, _ => exact hu.2.2

end Go.Proofs.YteaokdkfpafmaaaDoor
