/-
  LOCKS: Held, Index, Contains, Clone, Queue, Waits.
-/
import Derived.Test.YtdjncbfoecoedaaLkA
namespace Go.Proofs.Ytdjncbfoecoedaa
open Go.RowKit Go.Shelf
set_option linter.unusedVariables false

theorem info_int : (Try.prog.info? 3).map (fun i => (i.zero, i.size, i.bytes)) = some (some (.int .i64 0), 1, 8) := by kernel_rfl
/-- What a call that makes a row of numbers of its own tells. -/
def OwnI (w : World) (zs : List Int) (e : Ending) (w' : World) : Prop :=
  ∃ v, e = .returned v ∧ w'.ownsRow w.heap.size 3 1 v zs.length (zs.map (.int .i64)) ∧ Nw w w'
theorem OwnI.slice {w w' : World} {zs : List Int} {e : Ending} (h : OwnI w zs e w') : ∃ a c, e = .returned (.slice a zs.length c) ∧ Ints w'.heap.size .i64 w' a zs ∧ Nw w w' ∧ zs.length ≤ c := by
  obtain ⟨v, rfl, ho, hn⟩ := h
  obtain ⟨a, c, rfl, _, hI⟩ := Ints.of_owns ho
  exact ⟨a, c, rfl, hI, hn, own_cap ho⟩
/-- The locks below k that x holds. -/
def heldL (s : Nat → Lk) (x : Int) (k : Nat) : List Int := ((List.range k).filter fun i => (s i).h == x + 1).map fun (i : Nat) => (i : Int)
theorem heldL_succ (s : Nat → Lk) (x : Int) (k : Nat) : heldL s x (k + 1) = if ((s k).h == x + 1) = true then heldL s x k ++ [(k : Int)] else heldL s x k := by
  unfold heldL
  rw [List.range_succ, List.filter_append]
  by_cases h : ((s k).h == x + 1) = true
  · rw [if_pos h]; simp [h]
  · rw [if_neg h]; simp [h]
theorem heldL_length (s : Nat → Lk) (x : Int) (k : Nat) : (heldL s x k).length ≤ k := by
  unfold heldL
  rw [List.length_map]
  exact Nat.le_trans (List.length_filter_le _ _) (by simp)
set_option maxRecDepth 100000 in
set_option maxHeartbeats 4000000 in
theorem held_any (t : Nat) (n : Int) (s : Nat → Lk) (a : Nat → Option Addr) (c : Nat → Nat) (x : Int) (h0 : 0 ≤ x) (h4 : x < 4) (w : World) (h : TAt w t n s a c) :
    Calls Try.prog 15 #[.pointer (some ⟨t, 0, none⟩), .int .i64 x] w (OwnI w (heldL s x 70)) := by
  obtain ⟨i0, hi, hz0, hz1, hz2⟩ := info_parts8 info_int
  have HT := Lib.hid h
  clear h
  go_enter Try.func15, Try.ntmps15
  go_wp2_with fail
  go_loopw [6, 5, 4] (fun i p v wr => ∃ k : Nat, k ≤ 70 ∧ i = .int .i64 k ∧ Nw w wr ∧ wr.ownsRow w.heap.size 3 1 v (heldL s x k).length ((heldL s x k).map (.int .i64))) (fun i _ _ _ => 70 - (intOf i).toNat)
  case atStart => exact ⟨0, by omega, rfl, Nw.refl, rfl, .inl ⟨rfl, rfl⟩⟩
  case round =>
    obtain ⟨k, hk, rfl, hn, how⟩ := hrel
    have HN := Lib.hid hn
    have HOW := Lib.hid how
    clear hn how
    by_cases hlt : k < 70
    · have HR := Lib.hid (heldL_succ s x k)
      have hlen := heldL_length s x k
      have HH := Lib.hid (holds_any t n s a c x h0 h4 k hlt wr (HT.out.nw HN.out))
      generalize heldL s x k = L at *
      cases hb : ((s k).h == x + 1)
      · have HB := Lib.hid hb
        rw [hb] at HH
        clear hb
        go_wp2_with fail
        refine HH.out.mono ?_
        rintro e w1 ⟨rfl, rfl⟩
        go_wp2_with fail
        go_roundw
        case rel => exact ⟨k + 1, by omega, by go_num, HN.out, by rw [HR.out, HB.out, if_neg (by simp)]; exact HOW.out⟩
        case measure => simp [intOf]; omega
      · have HB := Lib.hid hb
        rw [hb] at HH
        clear hb
        go_wp2_with fail
        refine HH.out.mono ?_
        rintro e w1 ⟨rfl, rfl⟩
        have how := HOW.out
        have hs1 := HN.out.b.size
        go_wp2_with (at_builtin; refine wpList_append_ints _ rfl (.tmp 13) (.tmp 15) 30 rfl w.heap.size 3 i0 (.int .i64 0) 8 Try.underlying30 hi hz0 hz1 hz2 rfl _ _ _ rfl (how.alloc _) _ 1 1 .i64 [(k : Int)] _ rfl rfl (Ints.one _ _ _ _) (by unfold maxLen; omega) (by omega) (by simp; omega) ?_; intro v3 w3 hown3 hgrow3; have hb3 : Below w.heap.size w w3 := Below.grownRow (HN.out.b.alloc hs1 _) hgrow3 (by simp; omega) (how.alloc _) (Nat.le_refl _); clear hgrow3; rw [← List.map_append] at hown3)
        go_roundw
        case rel => exact ⟨k + 1, by omega, by go_num, ⟨hb3⟩, by rw [HR.out, HB.out, if_pos rfl, List.length_append]; exact hown3⟩
        case measure => simp [intOf]; omega
    · obtain rfl : k = 70 := by omega
      go_wp2_with fail
      go_ret
      exact ⟨_, rfl, HOW.out, HN.out⟩

/-! ### Index, Contains -/
theorem take_not {xs : List Int} {x : Int} {k : Nat} (hk : k < xs.length) (h : x ∉ xs.take k) (hx : x ≠ xs[k]) : x ∉ xs.take (k + 1) := by
  rw [List.take_succ_eq_append_getElem hk, List.mem_append, List.mem_singleton]
  exact fun hh => hh.elim h hx
/-- What Index tells. -/
def IndexP (xs : List Int) (x : Int) (w : World) (e : Ending) (w' : World) : Prop := ∃ r : Int, e = .returned (.int .i64 r) ∧ decide (0 ≤ r) = decide (x ∈ xs) ∧ -1 ≤ r ∧ w = w'
set_option maxHeartbeats 2000000 in
theorem index_any (a : Option Addr) (n c : Nat) (xs : List Int) (hx : xs.length = n) (hn : n ≤ 1000000) (x : Int) (B : Nat) (w : World) (hI : Ints B .i64 w a xs) :
    Calls Try.prog 29 #[.slice a n c, .int .i64 x] w (IndexP xs x w) := by
  subst hx
  go_enter Try.func29, Try.ntmps29
  go_wp2_with fail
  go_loop [8, 5] (fun i p => ∃ k : Nat, k ≤ xs.length ∧ i = .int .i64 k ∧ x ∉ xs.take k) (fun i _ => xs.length - (intOf i).toNat)
  case atStart => exact ⟨0, by omega, rfl, by simp⟩
  case round =>
    obtain ⟨k, hk, rfl, hnot⟩ := hrel
    have HNOT := Lib.hid hnot
    clear hnot
    by_cases hlt : k < xs.length
    · obtain ⟨b, off, rfl, _, hc⟩ := hI.at hlt
      have HM := Lib.hid (List.getElem_mem hlt)
      have HTK := Lib.hid (fun hx => take_not hlt HNOT.out hx)
      obtain ⟨y, hy⟩ : ∃ y, xs[k] = y := ⟨_, rfl⟩
      rw [hy] at hc HM HTK
      clear hy hI
      by_cases he : x = y
      · have hd : (x == y) = true := by rw [he]; simp
        have HE := Lib.hid he
        clear he
        go_wp2_with fail
        go_ret
        exact ⟨_, rfl, by rw [HE.out, decide_eq_true HM.out]; simp, by omega, rfl⟩
      · have hd : (x == y) = false := by rw [beq_eq_false_iff_ne]; exact he
        have HE := Lib.hid he
        clear he
        go_wp2_with fail
        go_round
        case rel => exact ⟨k + 1, by omega, by go_num, HTK.out HE.out⟩
        case measure => simp [intOf]; omega
    · have hnot : x ∉ xs := by have := HNOT.out; rwa [List.take_of_length_le (by omega)] at this
      have HN := Lib.hid hnot
      clear hnot
      go_wp2_with fail
      go_ret
      exact ⟨-1, rfl, by rw [decide_eq_false HN.out]; simp, by omega, rfl⟩
set_option maxHeartbeats 2000000 in
theorem contains_any (a : Option Addr) (n c : Nat) (xs : List Int) (hx : xs.length = n) (hn : n ≤ 1000000) (x : Int) (B : Nat) (w : World) (hI : Ints B .i64 w a xs) :
    Calls Try.prog 24 #[.slice a n c, .int .i64 x] w fun e w' => e = .returned (.bool (decide (x ∈ xs))) ∧ w = w' := by
  have HC := Lib.hid (index_any a n c xs hx hn x B w hI)
  clear hI hx
  go_enter Try.func24, Try.ntmps24
  go_wp2_with fail
  refine HC.out.mono ?_
  rintro e w' ⟨r, rfl, hr, _, rfl⟩
  have HR := Lib.hid hr
  clear hr
  go_wp2_with fail
  go_ret
  exact ⟨by rw [← HR.out]; rfl, rfl⟩

end Go.Proofs.Ytdjncbfoecoedaa
