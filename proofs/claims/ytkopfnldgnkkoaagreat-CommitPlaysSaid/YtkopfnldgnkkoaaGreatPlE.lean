import Derived.Test.YtkopfnldgnkkoaaGreatRrG
import Derived.Test.YtkopfnldgnkkoaaGreatRsA
import Derived.Test.YtkopfnldgnkkoaaGreatRpA
import Derived.Test.YtkopfnldgnkkoaaGreatGs
import Derived.Test.YtkopfnldgnkkoaaGreatGr
import Derived.Test.YtkopfnldgnkkoaaGreatRwC

/-
  PLAYS: Begin, Resume, Step of either run in all cases.
-/
namespace Go.Proofs.YtkopfnldgnkkoaaGreat
open Go.RowKit Go.Shelf
set_option linter.unusedVariables false

set_option maxRecDepth 100000 in
set_option maxHeartbeats 2000000 in
theorem rbegin_busy (r d : Nat) (g : G) (k : Nat) (L : List St) (a : Option Addr) (h0 : 0 < L.length) (la : Option Addr) (n lc : Nat) (w : World) (h : RRunAt w r d g k L a) :
    Calls Tryz.prog 13 #[.pointer (some ⟨r, 0, none⟩), .slice la n lc] w fun e w' => e = .returned (.int .i64 3) ∧ w = w' := by
  obtain ⟨c, hk, _⟩ := h.k
  have hc5 : w.cell? ⟨r, 5, none⟩ = some (.slice a L.length c) := hk.cell rfl
  have hi : (0 : Int) < (L.length : Int) := by omega
  clear h hk
  go_enter Tryz.func13, Tryz.ntmps13
  go_wp2_with fail
  go_ret
  exact ⟨rfl, rfl⟩
set_option maxRecDepth 100000 in
set_option maxHeartbeats 2000000 in
theorem rbegin_no (r d : Nat) (g : G) (k : Nat) (a : Option Addr) (la : Option Addr) (n lc n₀ : Nat) (l : List Wr) (hl : l.length = n) (hn : n ≤ 1000000) (hm : mayW g l = false) (w : World) (hn₀ : n₀ ≤ w.heap.size) (hI : Pairs .i64 .u64 n₀ w la l) (h : RRunAt w r d g k [] a) :
    Calls Tryz.prog 13 #[.pointer (some ⟨r, 0, none⟩), .slice la n lc] w fun e w' => e = .returned (.int .i64 1) ∧ Nw w w' := by
  obtain ⟨c, hk, _⟩ := h.k
  have hc1 : w.cell? ⟨r, 1, none⟩ = some (.int .i64 g.w) := hk.cell rfl
  have hc2 : w.cell? ⟨r, 2, none⟩ = some (.int .i64 g.i) := hk.cell rfl
  have hc3 : w.cell? ⟨r, 3, none⟩ = some (.int .i64 g.b) := hk.cell rfl
  have hc5 : w.cell? ⟨r, 5, none⟩ = some (.slice a 0 c) := hk.cell rfl
  have HM := Lib.hid (rrmay_any g la lc n₀ l w hn₀ hI (by omega))
  rw [hl, hm] at HM
  unfold gV at HM
  clear h hk hI hm
  go_enter Tryz.func13, Tryz.ntmps13
  go_wp2_with fail
  refine HM.out.mono ?_
  rintro e w1 ⟨rfl, hn1⟩
  have HN1 := Lib.hid hn1
  clear hn1
  go_wp2_with fail
  go_ret
  exact ⟨rfl, HN1.out⟩

/-- What Begin tells, and what steps it leaves. -/
def begE (g : G) (L : List St) (l : List Wr) : Int := if 0 < L.length then 3 else if mayW g l = true then 0 else 1
def begS (g : G) (area : Int) (L : List St) (l : List Wr) : List St := if 0 < L.length then L else if mayW g l = true then beginL area l else []
theorem begin_all (r d : Nat) (g : G) (area : Int) (L : List St) (a : Option Addr) (h0 : 0 ≤ area) (h1 : area + 208 ≤ 65536) (la : Option Addr) (n lc n₀ : Nat) (l : List Wr) (hl : l.length = n) (hn : n ≤ 1000000) (hsh : Shp la n lc) (hu : ∀ x ∈ l, (Lit.int .i64 x.1).wf = true ∧ u64 x.2) (w : World) (hn₀ : n₀ ≤ w.heap.size) (hI : Pairs .i64 .u64 n₀ w la l) (h : RunAt w r d g area L a)
    (hla : ∀ p, la = some p → ¬ OwnR9 r a p.block) :
    Calls Tryz.prog 12 #[.pointer (some ⟨r, 0, none⟩), .slice la n lc] w (RunG w r d g area a (begS g area L l) (.int .i64 (begE g L l))) := by
  unfold begE begS
  by_cases hL : 0 < L.length
  · rw [if_pos hL, if_pos hL]
    exact (begin_busy r d g area L a hL la n lc w h).mono fun e w' ⟨he, hw⟩ => ⟨he, a, hw ▸ RunM.refl h⟩
  · obtain rfl : L = [] := List.length_eq_zero_iff.1 (by omega)
    rw [if_neg hL, if_neg hL]
    by_cases hm : mayW g l = true
    · rw [if_pos hm, if_pos hm]
      exact begin_yes r d g area a h0 h1 la n lc n₀ l hl hsh hu hm w hn₀ hI h hla
    · rw [if_neg hm, if_neg hm]
      exact (begin_no r d g area a la n lc n₀ l hl hn (fun x hx => (hu x hx).1) (by simpa using hm) w hn₀ hI h).mono fun e w' ⟨he, hw⟩ => ⟨he, a, (RunM.refl h).nw hw⟩
def RRunG (w : World) (r d : Nat) (g : G) (k : Nat) (a : Option Addr) (L : List St) (v : Value) (e : Ending) (w' : World) : Prop := e = .returned v ∧ ∃ a', RRunM w r d g k a L a' w'
theorem rbegin_all (r d : Nat) (g : G) (k : Nat) (L : List St) (a : Option Addr) (hm : mayP g) (hk : (k : Int) < g.w) (la : Option Addr) (n lc n₀ : Nat) (l : List Wr) (hl : l.length = n) (hn : n ≤ 1000000) (hu : ∀ x ∈ l, (Lit.int .i64 x.1).wf = true ∧ u64 x.2) (w : World) (hn₀ : n₀ ≤ w.heap.size) (hI : Pairs .i64 .u64 n₀ w la l) (h : RRunAt w r d g k L a)
    (hla : l ≠ [] → ∀ p, la = some p → ¬ OwnR9 r a p.block) :
    Calls Tryz.prog 13 #[.pointer (some ⟨r, 0, none⟩), .slice la n lc] w (RRunG w r d g k a (begS g (264 + 208 * (k : Int)) L l) (.int .i64 (begE g L l))) := by
  unfold begE begS
  by_cases hL : 0 < L.length
  · rw [if_pos hL, if_pos hL]
    exact (rbegin_busy r d g k L a hL la n lc w h).mono fun e w' ⟨he, hw⟩ => ⟨he, a, hw ▸ RRunM.refl h⟩
  · obtain rfl : L = [] := List.length_eq_zero_iff.1 (by omega)
    rw [if_neg hL, if_neg hL]
    by_cases hmy : mayW g l = true
    · rw [if_pos hmy, if_pos hmy]
      exact rbegin_yes r d g k a hm hk la n lc n₀ l hl hu hmy w hn₀ hI h hla
    · rw [if_neg hmy, if_neg hmy]
      exact (rbegin_no r d g k a la n lc n₀ l hl hn (by simpa using hmy) w hn₀ hI h).mono fun e w' ⟨he, hw⟩ => ⟨he, a, (RRunM.refl h).nw hw⟩

/-- What Resume tells, and what steps it leaves. -/
def resB (L : List St) (ar : List Int) : Bool := if 0 < L.length then false else hd ar != 0
def resE (L : List St) : Int := if 0 < L.length then 3 else 0
def resS (g : G) (area : Int) (L : List St) (ar : List Int) : List St := if 0 < L.length then L else resumeL g area ar
theorem resume_all (r d b N A : Nat) (g : G) (L : List St) (a : Option Addr) (f : Nat → Wd) (hA : A + 208 ≤ N) (hg : wordsV g ≤ 65536) (hu : ∀ k, k < N → u64 (f k).seen) (w : World) (hD : DevAt w d b N f) (hR : RunAt w r d g (A : Int) L a) :
    Calls Tryz.prog 14 #[.pointer (some ⟨r, 0, none⟩)] w (RunG w r d g (A : Int) a (resS g (A : Int) L (seenA f A 208)) (.tuple #[.bool (resB L (seenA f A 208)), .int .i64 (resE L)])) := by
  unfold resS resB resE
  by_cases hL : 0 < L.length
  · rw [if_pos hL, if_pos hL, if_pos hL]
    exact (resume_busy r d g (A : Int) L a hL w hR).mono fun e w' ⟨he, hw⟩ => ⟨he, a, hw ▸ RunM.refl hR⟩
  · obtain rfl : L = [] := List.length_eq_zero_iff.1 (by omega)
    rw [if_neg hL, if_neg hL, if_neg hL]
    exact resume_any r d b N A g a f hA hg hu w hD hR
theorem rresume_all (r d b N k : Nat) (g : G) (L : List St) (a : Option Addr) (f : Nat → Wd) (ho : ovOk g N) (hk : (k : Int) < g.w) (hu : ∀ j, j < N → u64 (f j).seen) (w : World) (hD : RevAt w d b N f) (hR : RRunAt w r d g k L a) :
    Calls Tryz.prog 15 #[.pointer (some ⟨r, 0, none⟩)] w (RRunG w r d g k a (resS g (264 + 208 * (k : Int)) L (seenA f (264 + 208 * k) 208)) (.tuple #[.bool (resB L (seenA f (264 + 208 * k) 208)), .int .i64 (resE L)])) := by
  unfold resS resB resE
  by_cases hL : 0 < L.length
  · rw [if_pos hL, if_pos hL, if_pos hL]
    exact (rresume_busy r d g k L a hL w hR).mono fun e w' ⟨he, hw⟩ => ⟨he, a, hw ▸ RRunM.refl hR⟩
  · obtain rfl : L = [] := List.length_eq_zero_iff.1 (by omega)
    rw [if_neg hL, if_neg hL, if_neg hL]
    exact (rresume_any r d b N k g a f ho hk hu w hD hR).mono fun e w' ⟨he, a', h1, h2, h3⟩ => ⟨he, a', h1, h2.mono (fun x hx => .inl hx), fun x hx => by
      rcases hx with rfl | hx
      · exact .inl (.inl rfl)
      · exact (h3 x hx).imp .inr id⟩

/-- What Step tells, and does. -/
def stpE (L : List St) : Int := if 0 < L.length then 0 else 3
def stpF (L : List St) (f : Nat → Wd) : Nat → Wd := match L with | [] => f | s :: _ => doOp s.o f
def stpR (L : List St) (f : Nat → Wd) : Nat → Wd := match L with | [] => f | s :: _ => doOpR s.o f
def okLs (N : Nat) (L : List St) : Prop := ∀ s ∈ L, okOp N s.o
def StpG (w : World) (r d b N : Nat) (g : G) (area : Int) (a : Option Addr) (L : List St) (f : Nat → Wd) (e : Ending) (w' : World) : Prop :=
  e = .returned (.tuple #[.int .u8 (phaseOf L), .int .i64 (stpE L)]) ∧ ∃ a', RunAt w' r d g area L.tail a' ∧ DevAt w' d b N (stpF L f) ∧ UpO (fun k => k = b ∨ k = r) w w' ∧ ∀ k, QB a' k → QB a k
def RStpG (w : World) (r d b N : Nat) (g : G) (k : Nat) (a : Option Addr) (L : List St) (f : Nat → Wd) (e : Ending) (w' : World) : Prop :=
  e = .returned (.tuple #[.int .i64 (phaseOf L), .int .i64 (stpE L)]) ∧ ∃ a', RRunAt w' r d g k L.tail a' ∧ RevAt w' d b N (stpR L f) ∧ UpO (fun x => x = b ∨ x = r) w w' ∧ ∀ x, QB a' x → QB a x
theorem step_all (r d b N : Nat) (g : G) (area : Int) (L : List St) (a : Option Addr) (hL : L.length ≤ 90000) (f : Nat → Wd) (hok : okLs N L) (w : World) (hD : DevAt w d b N f) (h : RunAt w r d g area L a) :
    Calls Tryz.prog 22 #[.pointer (some ⟨r, 0, none⟩)] w (StpG w r d b N g area a L f) := by
  match L, hL, hok, h with
  | [], _, _, h => exact (step_none r d g area a w h).mono fun e w' ⟨he, hw⟩ => ⟨he, a, hw ▸ ⟨h, hD, .refl _ _, fun _ hk => hk⟩⟩
  | s :: L, hL, hok, h => exact step_any r d b N g area s L a (by simp at hL; omega) f (hok s (List.mem_cons_self ..)) w hD h
theorem rstep_all (r d b N : Nat) (g : G) (k : Nat) (L : List St) (a : Option Addr) (hL : L.length ≤ 90000) (f : Nat → Wd) (hok : okLs N L) (w : World) (hD : RevAt w d b N f) (h : RRunAt w r d g k L a) :
    Calls Tryz.prog 23 #[.pointer (some ⟨r, 0, none⟩)] w (RStpG w r d b N g k a L f) := by
  match L, hL, hok, h with
  | [], _, _, h => exact (rstep_none r d g k a w h).mono fun e w' ⟨he, hw⟩ => ⟨he, a, hw ▸ ⟨h, hD, .refl _ _, fun _ hk => hk⟩⟩
  | s :: L, hL, hok, h => exact rstep_any r d b N g k s L a (by simp at hL; omega) f (hok s (List.mem_cons_self ..)) w hD h
end Go.Proofs.YtkopfnldgnkkoaaGreat

/-
  PLAYS: the runs of all workers; what stays of them when one moves.
-/
namespace Go.Proofs.YtkopfnldgnkkoaaGreat
open Go.RowKit Go.Shelf
set_option linter.unusedVariables false

/-- No block of a run's. -/
def FarT (t : TypeId) : Prop := t ≠ 104 ∧ t ≠ 145 ∧ t ≠ 48 ∧ t ≠ 91 ∧ t ≠ 3
instance (t : TypeId) : Decidable (FarT t) := by unfold FarT; infer_instance
def NoRun (W : World) (O : Nat → Prop) : Prop := ∀ x, O x → ∃ t, Tag W x t ∧ FarT t
theorem NoRun.box {W : World} {O : Nat → Prop} (h : NoRun W O) : NoBox W O := fun k hk hx => by
  obtain ⟨t, ht, h1, h2, h3, h4, h5⟩ := h k hx
  rcases hk with hk | hk | hk
  · exact ht.ne hk h3 rfl
  · exact ht.ne hk h4 rfl
  · exact ht.ne hk h5 rfl
def NoRRun (W : World) (O : Nat → Prop) : Prop := ∀ x, O x → ∃ t, Tag W x t ∧ t ≠ 58 ∧ t ≠ 115
/-- The runs of the first workers. -/
structure Runs9 (W : World) (lo d : Nat) (g : G) (rs : List Nat) (av : Nat → Option Addr) (Ls : Nat → List St) : Prop where
  a : ∀ j (h : j < rs.length), RunAt W rs[j] d g (264 + 208 * (j : Int)) (Ls j) (av j)
  n : ∀ i j (hi : i < rs.length) (hj : j < rs.length), rs[i] = rs[j] → i = j
  q : ∀ i j x, i < rs.length → j < rs.length → QB (av i) x → QB (av j) x → i = j
  f : ∀ j (h : j < rs.length) x, OwnR9 rs[j] (av j) x → lo ≤ x
section
variable {W W' : World} {lo d : Nat} {g : G} {rs : List Nat} {av : Nat → Option Addr} {Ls : Nat → List St}
theorem Runs9.upo (h : Runs9 W lo d g rs av Ls) {O : Nat → Prop} (u : UpO O W W') (hO : NoRun W O) : Runs9 W' lo d g rs av Ls := by
  have no : ∀ j (hj : j < rs.length) x, O x → ¬ OwnR9 rs[j] (av j) x := fun j hj x hx hown => by
    obtain ⟨t, ht, h1, h2, _⟩ := hO x hx
    exact (h.a j hj).not_own ht h1 h2 hown
  exact ⟨fun j hj => (h.a j hj).upo u (fun hx => no j hj _ hx (.inl rfl)) (fun x hx hox => no j hj x hox (.inr hx)) hO.box, h.n, h.q, h.f⟩
theorem Runs9.nw (h : Runs9 W lo d g rs av Ls) (u : Nw W W') : Runs9 W' lo d g rs av Ls := h.upo (O := fun _ => False) (.of_nw u) (fun _ hx => hx.elim)
/-- One of them moves. -/
theorem Runs9.move (h : Runs9 W lo d g rs av Ls) {i : Nat} (hi : i < rs.length) {O : Nat → Prop} {a' : Option Addr} {L' : List St} (u : UpO O W W')
    (hO : ∀ x, O x → OwnR9 rs[i] (av i) x ∨ ∃ t, Tag W x t ∧ FarT t) (rr : RunAt W' rs[i] d g (264 + 208 * (i : Int)) L' a')
    (o : ∀ x, OwnR9 rs[i] a' x → OwnR9 rs[i] (av i) x ∨ W.heap.size ≤ x) (hlo : lo ≤ W.heap.size) : Runs9 W' lo d g rs (updF av i a') (updF Ls i L') := by
  have key : ∀ j (hj : j < rs.length), j ≠ i → ∀ x, OwnR9 rs[i] (av i) x → OwnR9 rs[j] (av j) x → False := by
    intro j hj hne x hx hy
    rcases hx with hx | hx <;> rcases hy with hy | hy
    · exact hne (h.n j i hj hi (hy.symm.trans hx))
    · exact ((h.a j hj).qtag hy).ne (h.a i hi).tag (by decide) hx
    · exact ((h.a i hi).qtag hx).ne (h.a j hj).tag (by decide) hy
    · exact hne (h.q j i x hj hi hy hx)
  refine ⟨fun j hj => ?_, h.n, fun p j x hp hj hx hy => ?_, fun j hj x hx => ?_⟩
  · by_cases e : j = i
    · subst e; rw [updF_same, updF_same]; exact rr
    · rw [updF_ne _ _ e, updF_ne _ _ e]
      have no : ∀ x, O x → ¬ OwnR9 rs[j] (av j) x := fun x hx hown => by
        rcases hO x hx with h1 | ⟨t, ht, h1, h2, _⟩
        · exact key j hj e x h1 hown
        · exact (h.a j hj).not_own ht h1 h2 hown
      refine (h.a j hj).upo u (fun hx => no _ hx (.inl rfl)) (fun x hx hox => no x hox (.inr hx)) (fun k hk hx => ?_)
      rcases hO k hx with h1 | ⟨t, ht, _, _, h3, h4, h5⟩
      · exact (h.a i hi).noBox k hk h1
      · rcases hk with hk | hk | hk
        · exact ht.ne hk h3 rfl
        · exact ht.ne hk h4 rfl
        · exact ht.ne hk h5 rfl
  · have new : ∀ j (hj : j < rs.length), j ≠ i → ∀ x, QB a' x → QB (av j) x → False := fun j hj hne x hx hy => by
      rcases o x (.inr hx) with h1 | h1
      · exact key j hj hne x h1 (.inr hy)
      · have := ((h.a j hj).qtag hy).lt; omega
    by_cases e1 : p = i <;> by_cases e2 : j = i
    · rw [e1, e2]
    · subst e1
      rw [updF_same] at hx; rw [updF_ne _ _ e2] at hy
      exact (new j hj e2 x hx hy).elim
    · subst e2
      rw [updF_same] at hy; rw [updF_ne _ _ e1] at hx
      exact (new p hp e1 x hy hx).elim
    · rw [updF_ne _ _ e1] at hx; rw [updF_ne _ _ e2] at hy
      exact h.q p j x hp hj hx hy
  · by_cases e : j = i
    · subst e
      rw [updF_same] at hx
      rcases o x hx with h1 | h1
      · exact h.f j hj x h1
      · omega
    · rw [updF_ne _ _ e] at hx; exact h.f j hj x hx
theorem NewRuns.runs9 {lo : Nat} {rs : List Nat} (h : NewRuns W d g lo rs) : Runs9 W lo d g rs (fun _ => none) (fun _ => []) := by
  refine ⟨h.a, fun i j hi hj e => ?_, fun i j x _ _ hx => ?_, fun j hj x hx => ?_⟩
  · rcases Nat.lt_trichotomy i j with h1 | h1 | h1
    · exact absurd e (List.pairwise_iff_getElem.1 h.n i j hi hj h1)
    · exact h1
    · exact absurd e.symm (List.pairwise_iff_getElem.1 h.n j i hj hi h1)
  · obtain ⟨p, hp, _⟩ := hx; cases hp
  · rcases hx with rfl | ⟨p, hp, _⟩
    · exact h.f _ (List.getElem_mem hj)
    · cases hp
end

/-- The document's runs of the first workers. -/
structure RRuns9 (W : World) (lo d : Nat) (g : G) (rs : List Nat) (av : Nat → Option Addr) (Ls : Nat → List St) : Prop where
  a : ∀ j (h : j < rs.length), RRunAt W rs[j] d g j (Ls j) (av j)
  n : ∀ i j (hi : i < rs.length) (hj : j < rs.length), rs[i] = rs[j] → i = j
  q : ∀ i j x, i < rs.length → j < rs.length → QB (av i) x → QB (av j) x → i = j
  f : ∀ j (h : j < rs.length) x, OwnR9 rs[j] (av j) x → lo ≤ x
section
variable {W W' : World} {lo d : Nat} {g : G} {rs : List Nat} {av : Nat → Option Addr} {Ls : Nat → List St}
theorem RRuns9.upo (h : RRuns9 W lo d g rs av Ls) {O : Nat → Prop} (u : UpO O W W') (hO : NoRRun W O) : RRuns9 W' lo d g rs av Ls := by
  have no : ∀ j (hj : j < rs.length) x, O x → ¬ OwnR9 rs[j] (av j) x := fun j hj x hx hown => by
    obtain ⟨t, ht, h1, h2⟩ := hO x hx
    exact (h.a j hj).not_own ht h1 h2 hown
  exact ⟨fun j hj => (h.a j hj).upo u (fun hx => no j hj _ hx (.inl rfl)) (fun x hx hox => no j hj x hox (.inr hx)), h.n, h.q, h.f⟩
theorem RRuns9.nw (h : RRuns9 W lo d g rs av Ls) (u : Nw W W') : RRuns9 W' lo d g rs av Ls := h.upo (O := fun _ => False) (.of_nw u) (fun _ hx => hx.elim)
theorem RRuns9.move (h : RRuns9 W lo d g rs av Ls) {i : Nat} (hi : i < rs.length) {O : Nat → Prop} {a' : Option Addr} {L' : List St} (u : UpO O W W')
    (hO : ∀ x, O x → OwnR9 rs[i] (av i) x ∨ ∃ t, Tag W x t ∧ t ≠ 58 ∧ t ≠ 115) (rr : RRunAt W' rs[i] d g i L' a')
    (o : ∀ x, OwnR9 rs[i] a' x → OwnR9 rs[i] (av i) x ∨ W.heap.size ≤ x) (hlo : lo ≤ W.heap.size) : RRuns9 W' lo d g rs (updF av i a') (updF Ls i L') := by
  have key : ∀ j (hj : j < rs.length), j ≠ i → ∀ x, OwnR9 rs[i] (av i) x → OwnR9 rs[j] (av j) x → False := by
    intro j hj hne x hx hy
    rcases hx with hx | hx <;> rcases hy with hy | hy
    · exact hne (h.n j i hj hi (hy.symm.trans hx))
    · exact ((h.a j hj).qtag hy).ne (h.a i hi).tag (by decide) hx
    · exact ((h.a i hi).qtag hx).ne (h.a j hj).tag (by decide) hy
    · exact hne (h.q j i x hj hi hy hx)
  refine ⟨fun j hj => ?_, h.n, fun p j x hp hj hx hy => ?_, fun j hj x hx => ?_⟩
  · by_cases e : j = i
    · subst e; rw [updF_same, updF_same]; exact rr
    · rw [updF_ne _ _ e, updF_ne _ _ e]
      have no : ∀ x, O x → ¬ OwnR9 rs[j] (av j) x := fun x hx hown => by
        rcases hO x hx with h1 | ⟨t, ht, h1, h2⟩
        · exact key j hj e x h1 hown
        · exact (h.a j hj).not_own ht h1 h2 hown
      exact (h.a j hj).upo u (fun hx => no _ hx (.inl rfl)) (fun x hx hox => no x hox (.inr hx))
  · have new : ∀ j (hj : j < rs.length), j ≠ i → ∀ x, QB a' x → QB (av j) x → False := fun j hj hne x hx hy => by
      rcases o x (.inr hx) with h1 | h1
      · exact key j hj hne x h1 (.inr hy)
      · have := ((h.a j hj).qtag hy).lt; omega
    by_cases e1 : p = i <;> by_cases e2 : j = i
    · rw [e1, e2]
    · subst e1
      rw [updF_same] at hx; rw [updF_ne _ _ e2] at hy
      exact (new j hj e2 x hx hy).elim
    · subst e2
      rw [updF_same] at hy; rw [updF_ne _ _ e1] at hx
      exact (new p hp e1 x hy hx).elim
    · rw [updF_ne _ _ e1] at hx; rw [updF_ne _ _ e2] at hy
      exact h.q p j x hp hj hx hy
  · by_cases e : j = i
    · subst e
      rw [updF_same] at hx
      rcases o x hx with h1 | h1
      · exact h.f j hj x h1
      · omega
    · rw [updF_ne _ _ e] at hx; exact h.f j hj x hx
/-- One more, new. -/
theorem RRuns9.snoc {r : Nat} (h : RRuns9 W lo d g rs (fun _ => none) (fun _ => [])) (k : Nw W W') (hr : RRunAt W' r d g rs.length [] none) (hl : W.heap.size ≤ r) (hlo : lo ≤ W.heap.size) : RRuns9 W' lo d g (rs ++ [r]) (fun _ => none) (fun _ => []) := by
  have hk := h.nw k
  have at_ : ∀ j (hj : j < (rs ++ [r]).length), (∃ hj' : j < rs.length, (rs ++ [r])[j] = rs[j]) ∨ (j = rs.length ∧ (rs ++ [r])[j] = r) := fun j hj => by
    by_cases e : j < rs.length
    · exact .inl ⟨e, List.getElem_append_left e⟩
    · rw [List.length_append, List.length_singleton] at hj
      obtain rfl : j = rs.length := by omega
      exact .inr ⟨rfl, by rw [List.getElem_append_right (Nat.le_refl _)]; simp⟩
  refine ⟨fun j hj => ?_, fun i j hi hj e => ?_, fun i j x _ _ hx => ?_, fun j hj x hx => ?_⟩
  · rcases at_ j hj with ⟨hj', e⟩ | ⟨rfl, e⟩
    · rw [e]; exact hk.a j hj'
    · rw [e]; exact hr
  · rcases at_ i hi with ⟨hi', e1⟩ | ⟨e1', e1⟩ <;> rcases at_ j hj with ⟨hj', e2⟩ | ⟨e2', e2⟩
    · exact h.n i j hi' hj' (by rw [← e1, ← e2]; exact e)
    · have := (h.a i hi').tag.lt
      rw [e1, e2] at e; omega
    · have := (h.a j hj').tag.lt
      rw [e1, e2] at e; omega
    · rw [e1', e2']
  · obtain ⟨p, hp, _⟩ := hx; cases hp
  · rcases at_ j hj with ⟨hj', e⟩ | ⟨rfl, e⟩
    · rw [e] at hx; exact h.f j hj' x hx
    · rw [e] at hx
      rcases hx with rfl | ⟨p, hp, _⟩
      · omega
      · cases hp
theorem RRunAt.grown {w w' : World} {r d : Nat} {g : G} {k : Nat} {base n : Nat} {v : Value} {xs : List Value} (h : RRunAt w r d g k [] none) (hg : w.grownBy w' v.ownBlock) (ho : w.ownsRow base 39 1 v n xs) : RRunAt w' r d g k [] none := by
  obtain ⟨c, hk, hc, hq⟩ := h.k
  have hc0 : c = 0 := by
    rcases hq with ⟨_, _, h⟩ | ⟨_, _, h, _⟩
    · exact h
    · cases h
  subst hc0
  exact ⟨0, grown_blk hk hg ho (by decide), hc, Qs.nil _ _ _⟩
theorem RRuns9.grown {w w' : World} {lo d : Nat} {g : G} {rs : List Nat} {base n : Nat} {v : Value} {xs : List Value} (h : RRuns9 w lo d g rs (fun _ => none) (fun _ => [])) (hg : w.grownBy w' v.ownBlock) (ho : w.ownsRow base 39 1 v n xs) : RRuns9 w' lo d g rs (fun _ => none) (fun _ => []) :=
  ⟨fun j hj => (h.a j hj).grown hg ho, h.n, h.q, h.f⟩
end

/-- A row of pointers in a block of its own. -/
def PtsAt (W : World) (t : TypeId) (b : Nat) (rs : List Nat) : Prop := ∃ cs, Blk W b cs t ∧ ∀ j (h : j < rs.length), cs[j]? = some (ptC rs[j])
theorem PtsAt.at_ {W : World} {t : TypeId} {b : Nat} {rs : List Nat} (h : PtsAt W t b rs) {j : Nat} (hj : j < rs.length) : W.cell? ⟨b, j, none⟩ = some (ptC rs[j]) := by
  obtain ⟨cs, hb, hc⟩ := h
  exact hb.cell (hc j hj)
theorem PtsAt.of_own {W : World} {base : Nat} {t : TypeId} {v : Value} {rs : List Nat} (h : W.ownsRow base t 1 v rs.length (rs.map ptC)) (h0 : 0 < rs.length) : ∃ b c, v = .slice (some ⟨b, 0, none⟩) rs.length c ∧ rs.length ≤ c ∧ base ≤ b ∧ PtsAt W t b rs := by
  rcases h.2 with ⟨_, h1⟩ | ⟨g, cap, cur, rfl, hg, hh, hn, _⟩
  · omega
  · refine ⟨g, cap, rfl, hn, hg, cur, hh, fun j hj => ?_⟩
    have h1 := h.cellAt j (by omega)
    rw [cell_of_row W g j cur t (0, 0) hh] at h1
    rw [h1]
    simp [hj]
end Go.Proofs.YtkopfnldgnkkoaaGreat

/-
  PLAYS, PLAINLY: values within their kind, steps that a device takes.
-/
namespace Go.Proofs.YtkopfnldgnkkoaaGreat
set_option linter.unusedVariables false

/-! ### Words within their kind -/
def UW (x : Wd) : Prop := u64 x.sure ∧ u64 x.seen ∧ u64 x.value
def UWs (N : Nat) (f : Nat → Wd) : Prop := ∀ k, k < N → UW (f k)
theorem u64_0 : u64 0 := ⟨by omega, by omega⟩
theorem UW.store {x : Wd} (h : UW x) {v : Int} (hv : u64 v) : UW (storeW x v) := ⟨h.1, hv, h.2.2⟩
theorem UW.flush {x : Wd} (h : UW x) : UW (flushW x) := ⟨h.1, h.2.1, h.2.1⟩
theorem UW.fence {x : Wd} (h : UW x) : UW (fenceW x) := by
  cases hf : x.flushed
  · rw [fence_no hf]; exact h
  · rw [fence_yes hf]; exact ⟨h.2.2, h.2.1, u64_0⟩
theorem UW.evict {x : Wd} (h : UW x) : UW (evictW x) := ⟨h.2.1, h.2.1, u64_0⟩
theorem UW.crash {x : Wd} (h : UW x) (p : Int) : UW (crashP p x) := by
  rw [crashP_eq]
  have : u64 (pickV p x) := by
    unfold pickV
    split
    · exact h.2.1
    · split
      · exact h.2.2
      · exact h.1
  exact ⟨this, this, u64_0⟩
theorem UWs.put {N : Nat} {f : Nat → Wd} (h : UWs N f) (k : Nat) {x : Wd} (hx : UW x) : UWs N (upd f k x) := fun j hj => by
  rw [upd_at]; split
  · exact hx
  · exact h j hj
theorem UWs.line {N : Nat} {f : Nat → Wd} (h : UWs N f) (i : Nat) {op : Wd → Wd} (hop : ∀ x, UW x → UW (op x)) : UWs N (lineU i op f) := fun j hj => by
  unfold lineU; split
  · exact hop _ (h j hj)
  · exact h j hj
theorem UWs.store {N : Nat} {f : Nat → Wd} (h : UWs N f) (k : Nat) (hk : k < N) {v : Int} (hv : u64 v) : UWs N (upd f k (storeW (f k) v)) := h.put k ((h k hk).store hv)
theorem UWs.evict {N : Nat} {f : Nat → Wd} (h : UWs N f) (i : Nat) : UWs N (evictU i f) := h.line i (fun _ hx => hx.evict)
theorem UWs.crash {N : Nat} {f : Nat → Wd} (h : UWs N f) (zs : List Int) : UWs N (crR zs f) := fun k hk => (h k hk).crash _
theorem uws_filD {N : Nat} {zs : List Int} (h : ∀ x ∈ zs, u64 x) : UWs N (filD zs) := fun k _ => by
  have : u64 (zs[k]?.getD 0) := by
    cases e : zs[k]? with
    | none => exact u64_0
    | some v => exact h v (List.mem_of_getElem? e)
  exact ⟨this, this, u64_0⟩
theorem UWs.row {N : Nat} {f : Nat → Wd} (h : UWs N f) {p : Wd → Int} (hp : ∀ x, UW x → u64 (p x)) : ∀ x ∈ rowL p f N, u64 x := fun x hx => by
  unfold rowL at hx
  obtain ⟨k, hk, rfl⟩ := List.mem_map.1 hx
  exact hp _ (h k (List.mem_range.1 hk))

/-! ### Steps -/
/-- A step that a device of N words takes, of a phase that there is. -/
structure StOk (N : Nat) (s : St) : Prop where
  o : okOp N s.o
  v : ∀ x ∈ storeOf s.o, u64 x.2
  p : 0 ≤ s.p ∧ s.p ≤ 6
def okL9 (N : Nat) (L : List St) : Prop := L.length ≤ 40000 ∧ ∀ s ∈ L, StOk N s
theorem okL9.ls {N : Nat} {L : List St} (h : okL9 N L) : okLs N L := fun s hs => (h.2 s hs).o
theorem okL9.tail {N : Nat} {L : List St} (h : okL9 N L) : okL9 N L.tail := ⟨by rw [List.length_tail]; have := h.1; omega, fun s hs => h.2 s (List.mem_of_mem_tail hs)⟩
theorem okL9.nil (N : Nat) : okL9 N [] := ⟨Nat.zero_le _, fun s hs => by cases hs⟩
theorem okL9.phase {N : Nat} {L : List St} (h : okL9 N L) : 0 ≤ phaseOf L ∧ phaseOf L ≤ 6 := by
  cases L with
  | nil => exact ⟨by decide, by decide⟩
  | cons s L => exact (h.2 s (List.mem_cons_self ..)).p
theorem okL9.mk' {N : Nat} {L : List St} (h1 : L.length ≤ 40000) (h2 : okLs N L) (h3 : ∀ x ∈ L.flatMap fun s => storeOf s.o, u64 x.2) (h4 : ∀ s ∈ L, 0 ≤ s.p ∧ s.p ≤ 6) : okL9 N L :=
  ⟨h1, fun s hs => ⟨h2 s hs, fun x hx => h3 x (List.mem_flatMap.2 ⟨s, hs, hx⟩), h4 s hs⟩⟩
theorem UWs.step {N : Nat} {f : Nat → Wd} (h : UWs N f) {L : List St} (hL : okL9 N L) : UWs N (stpF L f) := by
  cases L with
  | nil => exact h
  | cons s L =>
    have hs := hL.2 s (List.mem_cons_self ..)
    obtain ⟨p, o⟩ := s
    cases o with
    | store x v =>
      have ho : 0 ≤ x ∧ x < (N : Int) := hs.o
      exact h.store x.toNat (by omega) (hs.v (x, v) (List.mem_singleton.2 rfl))
    | flush l => exact h.line _ (fun _ hx => hx.flush)
    | fence =>
      intro k hk
      show UW (fenceU f k)
      unfold fenceU
      split
      · exact (h k hk).fence
      · exact h k hk
theorem Snd.congr {N : Nat} {f g : Nat → Wd} (h : Snd N f) (e : ∀ k, k < N → f k = g k) : Snd N g := fun k hk => by rw [← e k hk]; exact h k hk
theorem stp_same {N : Nat} {f : Nat → Wd} (h : Snd N f) (L : List St) (k : Nat) (hk : k < N) : stpR L f k = stpF L f k := by
  cases L with
  | nil => rfl
  | cons s L => exact doOp_same h s.o k hk
theorem Snd.step {N : Nat} {f : Nat → Wd} (h : Snd N f) (L : List St) : Snd N (stpF L f) := by
  refine Snd.congr (f := stpR L f) ?_ (fun k hk => stp_same h L k hk)
  cases L with
  | nil => exact h
  | cons s L => exact h.doOpR s.o

/-! ### The steps that Begin and Resume leave -/
theorem may_in {g : G} {l : List Wr} (hm : mayW g l = true) {x : Wr} (hx : x ∈ l) : 0 ≤ x.1 ∧ x.1 < wordsV g := by
  obtain ⟨i, hi, he⟩ := atW_mem hx
  unfold mayW at hm
  simp only [Bool.and_eq_true] at hm
  have hk := List.all_eq_true.1 hm.2 i (List.mem_range.2 hi)
  unfold okAt at hk
  simp only [Bool.and_eq_true] at hk
  have hk1 := hk.1
  rw [he] at hk1
  by_cases hb : ¬ mayP g ∨ x.1 < 0 ∨ atN g 7 ≤ x.1
  · rw [show whereV g x.1 = (0, 0, 0, 0) from if_pos hb] at hk1
    exact absurd hk1 (by decide)
  · rw [not_or, not_or, Classical.not_not] at hb
    refine ⟨by omega, ?_⟩
    unfold wordsV
    rw [if_pos hb.1]
    omega
theorem apply_len (A : Int) (l : List Wr) (hl : l.length ≤ 96) : (applyL A l).length ≤ 17000 := by
  have e1 := bothL_len 4 5 l
  have e2 := markL_len 6 A 0
  unfold applyL
  rw [List.length_append]
  omega
theorem begin_len9 (A : Int) (l : List Wr) (hl : l.length ≤ 96) : (beginL A l).length ≤ 40000 := by
  have e1 := bothL_len 1 2 (ownW A (recL l))
  have e2 := markL_len 3 A (markV (recL l))
  have e3 := apply_len A l hl
  rw [ownW_len, recL_len] at e1
  unfold beginL
  rw [List.length_append, List.length_append]
  omega
theorem store_uw {p q : Int} {l : List Wr} (h : ∀ x ∈ l, u64 x.2) : ∀ x ∈ (bothL p q l).flatMap (fun s => storeOf s.o), u64 x.2 := by
  rw [stores_both]; exact h
theorem both_ph {p q : Int} (hp : 0 ≤ p ∧ p ≤ 6) (hq : 0 ≤ q ∧ q ≤ 6) (l : List Wr) : ∀ s ∈ bothL p q l, 0 ≤ s.p ∧ s.p ≤ 6 := fun s hs => by
  rcases both_p s hs with h | h <;> rw [h] <;> assumption
theorem mark_ok9 {N : Nat} {A v p : Int} (h0 : 0 ≤ A) (h1 : A < 65536) (hN : A < N) (hv : u64 v) (hp : 0 ≤ p ∧ p ≤ 6) : ∀ s ∈ markL p A v, StOk N s := fun s hs => by
  have hx : ∀ x ∈ ([(A, v)] : List Wr), 0 ≤ x.1 ∧ x.1 < 65536 ∧ x.1 < (N : Int) := fun x hx => by rw [List.mem_singleton.1 hx]; exact ⟨h0, h1, hN⟩
  refine ⟨both_ok hx s hs, fun x hx => ?_, both_ph hp hp _ s hs⟩
  exact store_uw (p := p) (q := p) (l := [(A, v)]) (fun y hy => by rw [List.mem_singleton.1 hy]; exact hv) x (List.mem_flatMap.2 ⟨s, hs, hx⟩)
theorem apply_ok9 {N : Nat} {A : Int} (h0 : 0 ≤ A) (h1 : A < 65536) (hN : A < N) {l : List Wr} (hl : ∀ x ∈ l, 0 ≤ x.1 ∧ x.1 < 65536 ∧ x.1 < N) (hu : ∀ x ∈ l, u64 x.2) : ∀ s ∈ applyL A l, StOk N s := fun s hs => by
  unfold applyL at hs
  rcases List.mem_append.1 hs with hs | hs
  · exact ⟨both_ok hl s hs, fun x hx => store_uw (p := 4) (q := 5) hu x (List.mem_flatMap.2 ⟨s, hs, hx⟩), both_ph ⟨by decide, by decide⟩ ⟨by decide, by decide⟩ _ s hs⟩
  · exact mark_ok9 h0 h1 hN u64_0 ⟨by decide, by decide⟩ s hs
/-- What Begin leaves. -/
theorem begS_ok {N : Nat} {g : G} {A : Int} (h0 : 0 ≤ A) (h1 : A + 208 ≤ 65536) (hN : A + 208 ≤ N) (hw : wordsV g = N) (hN6 : N ≤ 65536) {L : List St} (hL : okL9 N L) {l : List Wr} (hu : ∀ x ∈ l, (Lit.int .i64 x.1).wf = true ∧ u64 x.2) : okL9 N (begS g A L l) := by
  unfold begS
  split
  · exact hL
  split
  · rename_i hm
    have hn := (may_small hm).1
    have hin : ∀ x ∈ l, 0 ≤ x.1 ∧ x.1 < 65536 ∧ x.1 < (N : Int) := fun x hx => by have := may_in hm hx; omega
    have hok : okW l := fun x hx => ⟨by have := hin x hx; omega, (hu x hx).2⟩
    refine okL9.mk' (begin_len9 A l hn) (begin_ok h0 h1 hN hn hin) ?_ (fun s hs => by have := (begin_rise A l).2 s hs; omega)
    rw [run_stores]
    exact runW_u64 hm hok A
  · exact okL9.nil N
theorem comL_u64 {g : G} {ar : List Int} (h : ∀ x ∈ ar, u64 x) : ∀ x ∈ comL g ar, u64 x.2 := fun x hx => by
  unfold comL at hx
  by_cases hc : comOk g ar = true
  · rw [if_pos hc] at hx
    exact readL_u64 (fun y hy => h y (List.mem_of_mem_drop hy)) x hx
  · rw [if_neg hc] at hx; cases hx
/-- What Resume leaves. -/
theorem resS_ok {N : Nat} {g : G} {A : Int} (h0 : 0 ≤ A) (h1 : A + 208 ≤ 65536) (hN : A + 208 ≤ N) (hw : wordsV g = N) (hN6 : N ≤ 65536) {L : List St} (hL : okL9 N L) {ar : List Int} (hu : ∀ x ∈ ar, u64 x) : okL9 N (resS g A L ar) := by
  unfold resS
  split
  · exact hL
  unfold resumeL
  split
  · exact okL9.nil N
  split
  · refine ⟨Nat.le_trans (apply_len A _ (comL_le g ar)) (by omega), apply_ok9 h0 (by omega) (by omega) (fun x hx => ?_) (comL_u64 hu)⟩
    have := comL_in hx
    omega
  · exact ⟨Nat.le_trans (markL_len 6 A 0) (by omega), mark_ok9 h0 (by omega) (by omega) u64_0 ⟨by decide, by decide⟩⟩
theorem seenA_u64 {N : Nat} {f : Nat → Wd} (h : UWs N f) {A : Nat} (hA : A + 208 ≤ N) : ∀ x ∈ seenA f A 208, u64 x := fun x hx => by
  unfold seenA at hx
  obtain ⟨i, hi, rfl⟩ := List.mem_map.1 hx
  exact (h (A + i) (by have := List.mem_range.1 hi; omega)).2.1
end Go.Proofs.YtkopfnldgnkkoaaGreat

/-
  PLAYS: the state of the law's loop in memory, and its moves.
-/
namespace Go.Proofs.YtkopfnldgnkkoaaGreat
open Go.RowKit Go.Shelf
set_option linter.unusedVariables false

/-- The kinds of the blocks that moves change. -/
def movT (t : TypeId) : Prop := t = 104 ∨ t = 145 ∨ t = 58 ∨ t = 115 ∨ t = 130 ∨ t = 132
instance (t : TypeId) : Decidable (movT t) := by unfold movT; infer_instance
/-- What a move keeps. -/
structure Kept (n0 : Nat) (W W' : World) : Prop where
  blk : ∀ k cs t, ¬ movT t → Blk W k cs t → Blk W' k cs t
  nw : ∀ w, w.heap.size = n0 → Nw w W → Nw w W'
  size : W.heap.size ≤ W'.heap.size
theorem Kept.refl (n0 : Nat) (W : World) : Kept n0 W W := ⟨fun _ _ _ _ h => h, fun _ _ h => h, Nat.le_refl _⟩
theorem Kept.trans {n0 : Nat} {a b c : World} (h : Kept n0 a b) (k : Kept n0 b c) : Kept n0 a c := ⟨fun i cs t ht hb => k.blk i cs t ht (h.blk i cs t ht hb), fun w hw n => k.nw w hw (h.nw w hw n), Nat.le_trans h.size k.size⟩
theorem Kept.of_nw {n0 : Nat} {a b : World} (h : Nw a b) : Kept n0 a b := ⟨fun _ _ _ _ hb => hb.nw h, fun _ _ n => n.trans h, h.b.size⟩
theorem Kept.of_upo {n0 : Nat} {a b : World} {O : Nat → Prop} (u : UpO O a b) (hn : ∀ x, O x → n0 ≤ x) (ht : ∀ x, O x → ∃ t, Tag a x t ∧ movT t) : Kept n0 a b :=
  ⟨fun k cs t hm hb => u.blk hb (fun hx => by
      obtain ⟨t', h1, h2⟩ := ht k hx
      by_cases e : t = t'
      · exact hm (e ▸ h2)
      · exact hb.tag.ne h1 e rfl),
    fun w hw n => UpO.nw_of n u (fun x hx => by rw [hw]; exact hn x hx), u.size⟩
theorem Kept.pts {n0 : Nat} {a b : World} (h : Kept n0 a b) {t : TypeId} (ht : ¬ movT t) {x : Nat} {rs : List Nat} (hp : PtsAt a t x rs) : PtsAt b t x rs := by
  obtain ⟨cs, hb, hc⟩ := hp
  exact ⟨cs, h.blk _ _ _ ht hb, hc⟩

/-- Both devices, all runs of both, in memory. -/
structure PlAt (W : World) (n0 : Nat) (g : G) (N d db rd rb : Nat) (rs qs : List Nat) (av bv : Nat → Option Addr) (L M : Nat → List St) (f h : Nat → Wd) : Prop where
  D : DevAt W d db N f
  R : RevAt W rd rb N h
  A : Runs9 W n0 d g rs av L
  B : RRuns9 W n0 rd g qs bv M
  dl : n0 ≤ db
  rl : n0 ≤ rb
section
variable {W W' : World} {n0 : Nat} {g : G} {N d db rd rb : Nat} {rs qs : List Nat} {av bv : Nat → Option Addr} {L M : Nat → List St} {f h : Nat → Wd}
theorem PlAt.nw (p : PlAt W n0 g N d db rd rb rs qs av bv L M f h) (u : Nw W W') : PlAt W' n0 g N d db rd rb rs qs av bv L M f h := ⟨p.D.nw u, p.R.nw u, p.A.nw u, p.B.nw u, p.dl, p.rl⟩
/-- The blocks of a run, by kind. -/
theorem PlAt.tagA (p : PlAt W n0 g N d db rd rb rs qs av bv L M f h) {i : Nat} (hi : i < rs.length) {x : Nat} (hx : OwnR9 rs[i] (av i) x) : Tag W x 104 ∨ Tag W x 145 := by
  rcases hx with rfl | hx
  · exact .inl (p.A.a i hi).tag
  · exact .inr ((p.A.a i hi).qtag hx)
theorem PlAt.tagB (p : PlAt W n0 g N d db rd rb rs qs av bv L M f h) {i : Nat} (hi : i < qs.length) {x : Nat} (hx : OwnR9 qs[i] (bv i) x) : Tag W x 58 ∨ Tag W x 115 := by
  rcases hx with rfl | hx
  · exact .inl (p.B.a i hi).tag
  · exact .inr ((p.B.a i hi).qtag hx)
/-- A run of the program's moves, its device stays. -/
theorem PlAt.moveA (p : PlAt W n0 g N d db rd rb rs qs av bv L M f h) {i : Nat} (hi : i < rs.length) {a' : Option Addr} {L' : List St} (m : RunM W rs[i] d g (264 + 208 * (i : Int)) (av i) L' a' W') (hn : n0 ≤ W.heap.size) :
    PlAt W' n0 g N d db rd rb rs qs (updF av i a') bv (updF L i L') M f h ∧ Kept n0 W W' := by
  have no : ∀ x t, Tag W x t → t ≠ 104 → t ≠ 145 → ¬ OwnR9 rs[i] (av i) x := fun x t ht h1 h2 => (p.A.a i hi).not_own ht h1 h2
  refine ⟨⟨p.D.upo m.u (no _ _ p.D.k.tag (by decide) (by decide)) (no _ _ p.D.a.ty (by decide) (by decide)), p.R.upo m.u (no _ _ p.R.k.tag (by decide) (by decide)) (no _ _ p.R.a.ty (by decide) (by decide)),
    p.A.move hi m.u (fun x hx => .inl hx) m.rr m.o hn, p.B.upo m.u (fun x hx => ?_), p.dl, p.rl⟩, .of_upo m.u (p.A.f i hi) (fun x hx => ?_)⟩
  · rcases p.tagA hi hx with ht | ht
    · exact ⟨_, ht, by decide, by decide⟩
    · exact ⟨_, ht, by decide, by decide⟩
  · rcases p.tagA hi hx with ht | ht
    · exact ⟨_, ht, by decide⟩
    · exact ⟨_, ht, by decide⟩
/-- A run of the document's moves, its device stays. -/
theorem PlAt.moveB (p : PlAt W n0 g N d db rd rb rs qs av bv L M f h) {i : Nat} (hi : i < qs.length) {a' : Option Addr} {L' : List St} (m : RRunM W qs[i] rd g i (bv i) L' a' W') (hn : n0 ≤ W.heap.size) :
    PlAt W' n0 g N d db rd rb rs qs av (updF bv i a') L (updF M i L') f h ∧ Kept n0 W W' := by
  have no : ∀ x t, Tag W x t → t ≠ 58 → t ≠ 115 → ¬ OwnR9 qs[i] (bv i) x := fun x t ht h1 h2 => (p.B.a i hi).not_own ht h1 h2
  refine ⟨⟨p.D.upo m.u (no _ _ p.D.k.tag (by decide) (by decide)) (no _ _ p.D.a.ty (by decide) (by decide)), p.R.upo m.u (no _ _ p.R.k.tag (by decide) (by decide)) (no _ _ p.R.a.ty (by decide) (by decide)),
    p.A.upo m.u (fun x hx => ?_), p.B.move hi m.u (fun x hx => .inl hx) m.rr m.o hn, p.dl, p.rl⟩, .of_upo m.u (p.B.f i hi) (fun x hx => ?_)⟩
  · rcases p.tagB hi hx with ht | ht
    · exact ⟨_, ht, by decide⟩
    · exact ⟨_, ht, by decide⟩
  · rcases p.tagB hi hx with ht | ht
    · exact ⟨_, ht, by decide⟩
    · exact ⟨_, ht, by decide⟩
/-- A step of a run of the program's. -/
theorem PlAt.stepA (p : PlAt W n0 g N d db rd rb rs qs av bv L M f h) {i : Nat} (hi : i < rs.length) {a' : Option Addr} {L' : List St} {f' : Nat → Wd} (rr : RunAt W' rs[i] d g (264 + 208 * (i : Int)) L' a') (hd : DevAt W' d db N f') (u : UpO (fun k => k = db ∨ k = rs[i]) W W') (hq : ∀ k, QB a' k → QB (av i) k) (hn : n0 ≤ W.heap.size) :
    PlAt W' n0 g N d db rd rb rs qs (updF av i a') bv (updF L i L') M f' h ∧ Kept n0 W W' := by
  have hbt := p.D.a.ty
  have hrt := (p.A.a i hi).tag
  have no : ∀ x t, Tag W x t → t ≠ 104 → t ≠ 130 → ¬ (x = db ∨ x = rs[i]) := fun x t ht h1 h2 hx => by
    rcases hx with rfl | rfl
    · exact ht.ne hbt h2 rfl
    · exact ht.ne hrt h1 rfl
  refine ⟨⟨hd, p.R.upo u (no _ _ p.R.k.tag (by decide) (by decide)) (no _ _ p.R.a.ty (by decide) (by decide)),
    p.A.move hi u (fun x hx => ?_) rr (fun x hx => hx.imp id (hq x) |> .inl) hn, p.B.upo u (fun x hx => ?_), p.dl, p.rl⟩, .of_upo u (fun x hx => ?_) (fun x hx => ?_)⟩
  · rcases hx with rfl | rfl
    · exact .inr ⟨_, hbt, by decide⟩
    · exact .inl (.inl rfl)
  · rcases hx with rfl | rfl
    · exact ⟨_, hbt, by decide, by decide⟩
    · exact ⟨_, hrt, by decide, by decide⟩
  · rcases hx with rfl | rfl
    · exact p.dl
    · exact p.A.f i hi _ (.inl rfl)
  · rcases hx with rfl | rfl
    · exact ⟨_, hbt, by decide⟩
    · exact ⟨_, hrt, by decide⟩
/-- A step of a run of the document's. -/
theorem PlAt.stepB (p : PlAt W n0 g N d db rd rb rs qs av bv L M f h) {i : Nat} (hi : i < qs.length) {a' : Option Addr} {L' : List St} {f' : Nat → Wd} (rr : RRunAt W' qs[i] rd g i L' a') (hd : RevAt W' rd rb N f') (u : UpO (fun k => k = rb ∨ k = qs[i]) W W') (hq : ∀ k, QB a' k → QB (bv i) k) (hn : n0 ≤ W.heap.size) :
    PlAt W' n0 g N d db rd rb rs qs av (updF bv i a') L (updF M i L') f f' ∧ Kept n0 W W' := by
  have hbt := p.R.a.ty
  have hrt := (p.B.a i hi).tag
  have no : ∀ x t, Tag W x t → t ≠ 58 → t ≠ 132 → ¬ (x = rb ∨ x = qs[i]) := fun x t ht h1 h2 hx => by
    rcases hx with rfl | rfl
    · exact ht.ne hbt h2 rfl
    · exact ht.ne hrt h1 rfl
  refine ⟨⟨p.D.upo u (no _ _ p.D.k.tag (by decide) (by decide)) (no _ _ p.D.a.ty (by decide) (by decide)), hd,
    p.A.upo u (fun x hx => ?_), p.B.move hi u (fun x hx => ?_) rr (fun x hx => hx.imp id (hq x) |> .inl) hn, p.dl, p.rl⟩, .of_upo u (fun x hx => ?_) (fun x hx => ?_)⟩
  · rcases hx with rfl | rfl
    · exact ⟨_, hbt, by decide⟩
    · exact ⟨_, hrt, by decide⟩
  · rcases hx with rfl | rfl
    · exact .inr ⟨_, hbt, by decide, by decide⟩
    · exact .inl (.inl rfl)
  · rcases hx with rfl | rfl
    · exact p.rl
    · exact p.B.f i hi _ (.inl rfl)
  · rcases hx with rfl | rfl
    · exact ⟨_, hbt, by decide⟩
    · exact ⟨_, hrt, by decide⟩
/-- A device is turned. -/
theorem PlAt.devA (p : PlAt W n0 g N d db rd rb rs qs av bv L M f h) {f' : Nat → Wd} (hd : DevAt W' d db N f') (u : Up db W W') : PlAt W' n0 g N d db rd rb rs qs av bv L M f' h ∧ Kept n0 W W' := by
  have hbt := p.D.a.ty
  have uo : UpO (fun k => k = db) W W' := .of_up u rfl
  exact ⟨⟨hd, p.R.upo uo (p.R.k.tag.ne hbt (by decide)) (p.R.a.ty.ne hbt (by decide)), p.A.upo uo (fun x hx => ⟨_, hx ▸ hbt, by decide⟩), p.B.upo uo (fun x hx => ⟨_, hx ▸ hbt, by decide, by decide⟩), p.dl, p.rl⟩,
    .of_upo uo (fun x hx => hx ▸ p.dl) (fun x hx => ⟨_, hx ▸ hbt, by decide⟩)⟩
theorem PlAt.devB (p : PlAt W n0 g N d db rd rb rs qs av bv L M f h) {f' : Nat → Wd} (hd : RevAt W' rd rb N f') (u : Up rb W W') : PlAt W' n0 g N d db rd rb rs qs av bv L M f f' ∧ Kept n0 W W' := by
  have hbt := p.R.a.ty
  have uo : UpO (fun k => k = rb) W W' := .of_up u rfl
  exact ⟨⟨p.D.upo uo (p.D.k.tag.ne hbt (by decide)) (p.D.a.ty.ne hbt (by decide)), hd, p.A.upo uo (fun x hx => ⟨_, hx ▸ hbt, by decide⟩), p.B.upo uo (fun x hx => ⟨_, hx ▸ hbt, by decide, by decide⟩), p.dl, p.rl⟩,
    .of_upo uo (fun x hx => hx ▸ p.rl) (fun x hx => ⟨_, hx ▸ hbt, by decide⟩)⟩
/-- New runs of the program's. -/
theorem PlAt.newA (p : PlAt W n0 g N d db rd rb rs qs av bv L M f h) {lo : Nat} {rs' : List Nat} (u : Nw W W') (nr : NewRuns W' d g lo rs') (hlo : n0 ≤ lo) : PlAt W' n0 g N d db rd rb rs' qs (fun _ => none) bv (fun _ => []) M f h := by
  have q := p.nw u
  have r9 := nr.runs9
  exact ⟨q.D, q.R, ⟨r9.a, r9.n, r9.q, fun j hj x hx => Nat.le_trans hlo (r9.f j hj x hx)⟩, q.B, q.dl, q.rl⟩
/-- The document's run i has no steps. -/
theorem PlAt.clearB (p : PlAt W n0 g N d db rd rb rs qs av bv L M f h) {i : Nat} (hi : i < qs.length) (hn : n0 ≤ W.heap.size) :
    PlAt (W.setCell ⟨qs[i], 5, none⟩ (.slice none 0 0)) n0 g N d db rd rb rs qs av (updF bv i none) L (updF M i []) f h ∧ Kept n0 W (W.setCell ⟨qs[i], 5, none⟩ (.slice none 0 0)) := by
  obtain ⟨c, hk, _, _⟩ := (p.B.a i hi).k
  have hk1 := hk.set 5 (.slice none 0 0)
  refine p.moveB hi ⟨⟨0, hk1, Nat.le_refl _, Qs.nil _ _ _⟩, .of_up ((Up.refl qs[i] W).set 5 _) (.inl rfl), fun x hx => ?_⟩ hn
  rcases hx with rfl | ⟨q, hq, _⟩
  · exact .inl (.inl rfl)
  · cases hq
theorem PlAt.same (p : PlAt W n0 g N d db rd rb rs qs av bv L M f h) {f' h' : Nat → Wd} (e1 : ∀ k, k < N → f k = f' k) (e2 : ∀ k, k < N → h k = h' k) : PlAt W n0 g N d db rd rb rs qs av bv L M f' h' := ⟨p.D.congr e1, p.R.congr e2, p.A, p.B, p.dl, p.rl⟩
end
/-- What the loop keeps of the plain state. -/
structure PlOk (N X : Nat) (L : Nat → List St) (f : Nat → Wd) : Prop where
  s : Snd N f
  u : UWs N f
  l : ∀ k, k < X → okL9 N (L k)
end Go.Proofs.YtkopfnldgnkkoaaGreat
