/-
  LOCKS: grommetref22.Same; a row of workers beside a table.
-/
import Derived.Test.YtdjncbfoecoedaaLkS
namespace Go.Proofs.Ytdjncbfoecoedaa
open Go.RowKit Go.Shelf
set_option linter.unusedVariables false

set_option maxHeartbeats 1000000 in
theorem same_no_len (a1 : Option Addr) (n1 c1 : Nat) (a2 : Option Addr) (n2 c2 : Nat) (h : n1 ≠ n2) (w : World) :
    Calls Try.prog 13 #[.slice a1 n1 c1, .slice a2 n2 c2] w (Quietly (.bool false) w) := by
  have hd : ((n1 : Int) != (n2 : Int)) = true := by rw [bne_iff_ne]; omega
  clear h
  go_enter Try.func13, Try.ntmps13
  go_wp2_with fail
  go_ret
  exact ⟨rfl, 0, rfl⟩

set_option maxHeartbeats 2000000 in
theorem same_len (a1 : Option Addr) (n c1 : Nat) (a2 : Option Addr) (c2 : Nat) (xs ys : List Int) (hx : xs.length = n) (hy : ys.length = n) (hn : n * 8 ≤ 140737488351232) (B : Nat) (w : World) (hI : Ints B .i64 w a1 xs) (hJ : Ints B .i64 w a2 ys) :
    Calls Try.prog 13 #[.slice a1 n c1, .slice a2 n c2] w (Quietly (.bool (decide (xs = ys))) w) := by
  have HX := Lib.hid hx
  have HY := Lib.hid hy
  clear hx hy
  go_enter Try.func13, Try.ntmps13
  go_wp2_with fail
  go_loopw [5] (fun i wr => ∃ k : Nat, k ≤ n ∧ i = .int .i64 k ∧ xs.take k = ys.take k ∧ ∃ m, wr = w.drewN m) (fun i _ => n - (intOf i).toNat)
  case atStart => exact ⟨0, by omega, rfl, rfl, 0, rfl⟩
  case round =>
    obtain ⟨k, hk, rfl, htk, m, hm⟩ := hrel
    have HT := Lib.hid htk
    have HMm := Lib.hid hm
    clear htk hm
    by_cases hlt : k < n
    · obtain ⟨b1, o1, rfl, _, p1⟩ := hI.at (j := k) (by rw [HX.out]; exact hlt)
      obtain ⟨b2, o2, rfl, _, p2⟩ := hJ.at (j := k) (by rw [HY.out]; exact hlt)
      have q1 := (show wr.cell? ⟨b1, o1 + k, none⟩ = w.cell? ⟨b1, o1 + k, none⟩ from by rw [HMm.out]; rfl).trans p1
      have q2 := (show wr.cell? ⟨b2, o2 + k, none⟩ = w.cell? ⟨b2, o2 + k, none⟩ from by rw [HMm.out]; rfl).trans p2
      clear p1 p2 hI hJ
      obtain ⟨x, hx⟩ : ∃ x, xs[k]'(by rw [HX.out]; exact hlt) = x := ⟨_, rfl⟩
      obtain ⟨y, hy⟩ : ∃ y, ys[k]'(by rw [HY.out]; exact hlt) = y := ⟨_, rfl⟩
      rw [hx] at q1
      rw [hy] at q2
      have HXX := Lib.hid hx
      have HYY := Lib.hid hy
      clear hx hy
      by_cases he : x = y
      · have hd : (x != y) = false := by rw [he]; simp
        have HE := Lib.hid he
        clear he
        go_wp2_with fail
        go_quiet (fail)
        go_wp2_with fail
        go_roundw
        case rel => exact ⟨k + 1, by omega, by go_num, by rw [List.take_succ_eq_append_getElem (by rw [HX.out]; exact hlt), List.take_succ_eq_append_getElem (by rw [HY.out]; exact hlt), HT.out, HXX.out, HYY.out, HE.out], m + nq, by rw [HMm.out, World.drewN_drewN]⟩
        case measure => simp [intOf]; omega
      · have hd : (x != y) = true := by rw [bne_iff_ne]; exact he
        have HF := Lib.hid (show decide (xs = ys) = false by
          rw [decide_eq_false_iff_not]; intro hh; subst hh; exact he (HXX.out.symm.trans HYY.out))
        clear he
        go_wp2_with fail
        go_quiet (fail)
        go_wp2_with fail
        go_ret
        exact ⟨by rw [HF.out]; rfl, m + nq, by rw [HMm.out, World.drewN_drewN]⟩
    · have HF := Lib.hid (show decide (xs = ys) = true by
        rw [decide_eq_true_eq]
        have := HT.out
        rwa [List.take_of_length_le (by rw [HX.out]; omega), List.take_of_length_le (by rw [HY.out]; omega)] at this)
      go_wp2_with fail
      go_ret
      exact ⟨by rw [HF.out]; rfl, m, HMm.out⟩


theorem same_yes (a1 a2 : Option Addr) (c1 c2 : Nat) (xs ys : List Int) (he : xs = ys) (hn : xs.length ≤ 1000000) (B : Nat) (w : World) (hI : Ints B .i64 w a1 xs) (hJ : Ints B .i64 w a2 ys) :
    Calls Try.prog 13 #[.slice a1 xs.length c1, .slice a2 ys.length c2] w (Yes true w) := by
  subst he
  exact (same_len a1 xs.length c1 a2 c2 xs xs rfl rfl (by omega) B w hI hJ).mono fun e w' ⟨h1, n, h2⟩ => ⟨by rw [h1, decide_eq_true rfl], by rw [h2]; exact Nw.refl.drewN n⟩

/-- A table, and a row of workers in a block of its own. -/
structure QI (w : World) (t : Nat) (s : Nat → Lk) (came : List Int) (W : World) (a : Nat → Option Addr) (c : Nat → Nat) (ac : Option Addr) (cc : Nat) : Prop where
  n : Nw w W
  tt : TAt W t 4 s a c
  o : ∀ x, Own t a x → w.heap.size ≤ x
  q : Qu W ac cc came
  b : ∀ p, ac = some p → w.heap.size ≤ p.block
  d : ∀ p, ac = some p → ¬ Own t a p.block
theorem QI.nw {w : World} {t : Nat} {s : Nat → Lk} {came : List Int} {W W' : World} {a : Nat → Option Addr} {c : Nat → Nat} {ac : Option Addr} {cc : Nat} (h : QI w t s came W a c ac cc) (k : Nw W W') : QI w t s came W' a c ac cc :=
  ⟨h.n.trans k, h.tt.nw k, h.o, h.q.nw k, h.b, h.d⟩
theorem QI.moved {w : World} {t : Nat} {s s' : Nat → Lk} {came : List Int} {W W' : World} {a a' : Nat → Option Addr} {c c' : Nat → Nat} {ac : Option Addr} {cc : Nat} (h : QI w t s came W a c ac cc) (m : Moved W t 4 a s' a' c' W') : QI w t s' came W' a' c' ac cc :=
  ⟨⟨m.u.below h.n.b h.n.b.size h.o⟩, m.tt, fun x hx => (m.o x hx).elim (h.o x) (fun hh => Nat.le_trans h.n.b.size hh), h.q.upo m.u h.d, h.b, fun p hp hx => (m.o _ hx).elim (h.d p hp) (fun hh => by have := h.q.lt p hp; omega)⟩
theorem QI.turned {w : World} {t : Nat} {s : Nat → Lk} {came came' : List Int} {W W' : World} {a : Nat → Option Addr} {c : Nat → Nat} {ac a1 : Option Addr} {cc c1 : Nat} (h : QI w t s came W a c ac cc) (hq : Qu W' a1 c1 came') (hu : UpO (QB ac) W W')
    (hf : ∀ p, a1 = some p → QB ac p.block ∨ W.heap.size ≤ p.block) : QI w t s came' W' a c a1 c1 := by
  refine ⟨⟨hu.below h.n.b h.n.b.size (fun x ⟨p, hp, e⟩ => e ▸ h.b p hp)⟩, h.tt.upo hu (fun x hx ⟨p, hp, e⟩ => h.d p hp (e ▸ hx)), h.o, hq, fun p hp => ?_, fun p hp hx => ?_⟩
  · rcases hf p hp with ⟨p0, h0, e⟩ | h1
    · exact e ▸ h.b p0 h0
    · exact Nat.le_trans h.n.b.size h1
  · rcases hf p hp with ⟨p0, h0, e⟩ | h1
    · exact h.d p0 h0 (e ▸ hx)
    · have := h.tt.own_lt hx; omega
/-- The row cut by its first one. -/
theorem QI.tail {w : World} {t : Nat} {s : Nat → Lk} {x : Int} {r : List Int} {W : World} {a : Nat → Option Addr} {c : Nat → Nat} {b off cc : Nat} (h : QI w t s (x :: r) W a c (some ⟨b, off, none⟩) cc) :
    (1 < cc → QI w t s r W a c (some ⟨b, off + 1, none⟩) (cc - 1)) ∧ (cc = 1 → r = [] ∧ QI w t s [] W a c (some ⟨b, off, none⟩) 0) :=
  ⟨fun hc => h.turned (h.q.rest.1 hc) (.refl _ _) (fun p hp => by cases hp; exact .inl ⟨_, rfl, rfl⟩), fun hc => ⟨(h.q.rest.2 hc).1, h.turned (h.q.rest.2 hc).2 (.refl _ _) (fun p hp => by cases hp; exact .inl ⟨_, rfl, rfl⟩)⟩⟩

/-! ### One lock that all want -/
def oneQ (k : Nat) (came : List Int) : Nat → Lk := fun i => if i = k then (match came with | [] => freeLk | x :: r => ⟨x + 1, r⟩) else freeLk
theorem oneQ_nil (k : Nat) : oneQ k [] = fun _ => freeLk := by funext i; unfold oneQ; split <;> rfl
theorem oneQ_other {k i : Nat} (came : List Int) (h : i ≠ k) : oneQ k came i = freeLk := if_neg h
theorem oneQ_at (k : Nat) (x : Int) (r : List Int) : oneQ k (x :: r) k = ⟨x + 1, r⟩ := if_pos rfl
theorem one_held_not {k : Nat} {came : List Int} {w : Int} (h0 : 0 ≤ w) (h : ∀ x r, came = x :: r → w ≠ x) : heldL (oneQ k came) w 70 = [] := by
  refine List.eq_nil_iff_forall_not_mem.2 fun y hy => ?_
  obtain ⟨i, hi, hh, _⟩ := heldL_mem.1 hy
  by_cases e : i = k
  · subst e
    cases came with
    | nil => unfold oneQ at hh; rw [if_pos rfl] at hh; simp only [freeLk] at hh; omega
    | cons x r => rw [oneQ_at] at hh; dsimp only at hh; exact h x r rfl (by omega)
  · rw [oneQ_other _ e] at hh; simp only [freeLk] at hh; omega
theorem one_want_held {k : Nat} (hk : k < 70) (x : Int) (r : List Int) : wantS (oneQ k (x :: r)) x k = (oneQ k (x :: r), false, 1) := by
  unfold wantS
  rw [if_neg (by omega), if_pos]
  refine List.any_eq_true.2 ⟨(k : Int), heldL_mem.2 ⟨k, hk, by rw [oneQ_at], rfl⟩, by simp [geB]⟩
theorem one_waits_not {k : Nat} {came : List Int} {w : Int} (h : ∀ x r, came = x :: r → w ∉ r) : waitsAt (oneQ k came) w 70 = none := by
  rw [waitsAt_none]
  intro i hi hw
  by_cases e : i = k
  · subst e
    cases came with
    | nil => unfold oneQ at hw; rw [if_pos rfl] at hw; cases hw
    | cons x r => rw [oneQ_at] at hw; exact h x r rfl hw
  · rw [oneQ_other _ e] at hw; cases hw
theorem one_want_waits {k : Nat} (hk : k < 70) {x w : Int} {r : List Int} (h0 : 0 ≤ w) (hwx : w ≠ x) (hw : w ∈ r) : wantS (oneQ k (x :: r)) w k = (oneQ k (x :: r), false, 3) := by
  unfold wantS
  rw [if_neg (by omega), one_held_not h0 (fun x' r' e => by cases e; exact hwx), if_neg (by simp), if_pos]
  rw [waits_iff]
  exact ⟨k, hk, by rw [oneQ_at]; exact hw⟩
theorem one_want_first {k : Nat} (hk : k < 70) {w : Int} (h0 : 0 ≤ w) : wantS (oneQ k []) w k = (oneQ k [w], true, 0) := by
  unfold wantS
  rw [if_neg (by omega), one_held_not h0 (fun x r e => by cases e), if_neg (by simp), one_waits_not (fun x r e => by cases e), if_neg (by simp)]
  rw [show ((k : Int)).toNat = k by omega, oneQ_nil, if_neg (by simp [freeLk])]
  rfl
theorem one_want_next {k : Nat} (hk : k < 70) {x w : Int} {r : List Int} (hx0 : 0 ≤ x) (h0 : 0 ≤ w) (hw : w ∉ x :: r) : wantS (oneQ k (x :: r)) w k = (oneQ k (x :: r ++ [w]), false, 0) := by
  have hwx : w ≠ x := fun e => hw (by rw [e]; exact List.mem_cons_self)
  have hwr : w ∉ r := fun h => hw (List.mem_cons_of_mem _ h)
  unfold wantS
  rw [if_neg (by omega), one_held_not h0 (fun x' r' e => by cases e; exact hwx), if_neg (by simp), one_waits_not (fun x' r' e => by cases e; exact hwr), if_neg (by simp)]
  rw [show ((k : Int)).toNat = k by omega, oneQ_at, if_pos (show x + 1 ≠ 0 by omega)]
  congr 1
  funext i
  rw [updF_at]
  by_cases e : i = k
  · subst e; rw [if_pos rfl]; exact (oneQ_at i x (r ++ [w])).symm
  · rw [if_neg e, oneQ_other _ e, oneQ_other _ e]
theorem loose_one {fl : Nat → Bool} {k : Nat} (hk : k < 70) (h : ∀ i, i < 70 → i ≠ k → fl i = false) : looseL 70 fl 70 = if fl k = true then [⟨k, hk⟩] else [] := by
  have h1 : ∀ x ∈ looseL 70 fl 70, x = ⟨k, hk⟩ := fun x hx => by
    have := (looseL_mem (fl := fl) x).1 hx
    by_cases e : x.1 = k
    · exact Fin.ext e
    · rw [h x.1 x.2 e] at this; cases this
  have h2 := looseL_nodup 70 fl 70
  have h3 := looseL_mem (fl := fl) ⟨k, hk⟩
  cases hl : looseL 70 fl 70 with
  | nil =>
    rw [if_neg]
    intro hf
    have := h3.2 hf
    rw [hl] at this; cases this
  | cons a l =>
    rw [hl] at h1 h2 h3
    obtain rfl := h1 a List.mem_cons_self
    rw [if_pos (h3.1 List.mem_cons_self)]
    cases l with
    | nil => rfl
    | cons b l =>
      obtain rfl := h1 b (List.mem_cons_of_mem _ List.mem_cons_self)
      exact absurd List.mem_cons_self (List.nodup_cons.1 h2).1
theorem less_none {x : Int} {r : List Int} (h : x ∉ r) : lessL x r = r := lessL_all fun y hy => by unfold eqB; rw [beq_eq_false_iff_ne]; rintro rfl; exact h hy
theorem one_rel {k : Nat} (hk : k < 70) {x : Int} {r : List Int} (hx0 : 0 ≤ x) (h : x ∉ r) : relTo (oneQ k (x :: r)) x 70 = fun i => if i = k then ⟨0, r⟩ else freeLk := by
  funext i
  unfold relTo
  by_cases e : i = k
  · subst e
    rw [if_pos hk, if_pos rfl, oneQ_at, relK, if_pos (by simp), less_none h]
  · rw [oneQ_other _ e, if_neg e]
    split
    · simp [relK, freeLk, lessL]
    · rfl
theorem one_ready {k : Nat} (r : List Int) : ∀ i, rdyB (fun i => if i = k then (⟨0, r⟩ : Lk) else freeLk) i = (decide (i = k) && decide (0 < r.length)) := by
  intro i
  unfold rdyB
  by_cases e : i = k
  · subst e; simp
  · simp [e, freeLk]
theorem one_give {k : Nat} (hk : k < 70) {x : Int} {r : List Int} (hx0 : 0 ≤ x) (h : x ∉ r) : giveS (oneQ k (x :: r)) x = oneQ k r ∧ giveO (oneQ k (x :: r)) x = r.take 1 := by
  unfold giveS giveO
  rw [one_rel hk hx0 h, loose_one hk (fun i _ hik => by rw [one_ready]; simp [hik])]
  rw [one_ready]
  cases r with
  | nil =>
    rw [if_neg (by simp), oneQ_nil]
    refine ⟨?_, rfl⟩
    funext i
    show (if i = k then (⟨0, []⟩ : Lk) else freeLk) = freeLk
    split <;> rfl
  | cons y r =>
    rw [if_pos (by simp)]
    refine ⟨?_, ?_⟩
    · funext i
      show updF (fun i => if i = k then (⟨0, y :: r⟩ : Lk) else freeLk) k (popK (if k = k then (⟨0, y :: r⟩ : Lk) else freeLk)) i = _
      rw [updF_at, if_pos rfl]
      by_cases e : i = k
      · subst e; rw [if_pos rfl, oneQ_at]; rfl
      · rw [if_neg e, if_neg e, oneQ_other _ e]
    · simp [outL]

end Go.Proofs.Ytdjncbfoecoedaa
