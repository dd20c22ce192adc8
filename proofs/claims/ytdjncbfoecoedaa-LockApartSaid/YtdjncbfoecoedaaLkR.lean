/-
  LOCKS: how long queues are; the anchor; steps as arguments.
-/
import Derived.Test.YtdjncbfoecoedaaLkQ
import Derived.Test.YtdjncbfoecoedaaOpen
namespace Go.Proofs.Ytdjncbfoecoedaa
open Go.ChangeShapes Go.WideShapes Go.Deep Go.RowKit Go.Shelf
set_option linter.unusedVariables false

def Fit (s : Nat → Lk) (k : Nat) : Prop := ∀ i, i < 70 → (s i).q.length ≤ k
theorem fit_start : Fit (fun _ => freeLk) 0 := fun _ _ => Nat.le_refl _
theorem Fit.mono {s : Nat → Lk} {k m : Nat} (h : Fit s k) (hm : k ≤ m) : Fit s m := fun i hi => Nat.le_trans (h i hi) hm
theorem fit_give {s : Nat → Lk} {k : Nat} (h : Fit s k) (x : Int) : Fit (giveS s x) k := by
  intro i hi
  have h0 := h i hi
  have h1 := lessL_length x (s i).q
  rcases give_cases s x i hi with ⟨f, r, h2, _, h3⟩ | ⟨_, _, h3⟩ | ⟨_, _, h3⟩
  · rw [h3]; rw [h2] at h1; simp at h1; dsimp only; omega
  · rw [h3]; dsimp only; omega
  · rw [h3]; exact Nat.zero_le _
theorem fit_want {s : Nat → Lk} {k : Nat} (h : Fit s k) (x lock : Int) : Fit (wantS s x lock).1 (k + 1) := by
  have h' := h.mono (Nat.le_succ k)
  unfold wantS
  split
  · exact h'
  · split
    · exact h'
    · split
      · exact h'
      · split
        · intro i hi
          dsimp only
          rw [updF_at]
          split
          · rename_i e
            have := h i hi
            rw [← e]
            simp; omega
          · exact h' i hi
        · intro i hi
          dsimp only
          rw [updF_at]
          split
          · rename_i e
            rw [← e]; exact h' i hi
          · exact h' i hi
theorem Ok.e4 {s : Nat → Lk} {n : Int} (h : Ok s n) (hn : n ≤ 4) : ∀ i, i < 70 → ∀ y ∈ (s i).q, 0 ≤ y ∧ y < 4 := fun i hi y hy => by have := h.e i hi y hy; omega
/-- From a table's making on only new memory has turned. -/
theorem Moved.made {w w1 w' : World} {n : Int} {s : Nat → Lk} {a' : Nat → Option Addr} {c' : Nat → Nat} {t : Nat} (h : Moved w1 t n (fun _ => none) s a' c' w') (hn : Nw w w1) (ht : w.heap.size ≤ t) : Nw w w' :=
  ⟨UpO.below hn.b h.u hn.b.size (fun x hx => by rcases hx with rfl | ⟨i, _, p, hp, _⟩; exact ht; cases hp)⟩
def Yes (v : Bool) (w : World) (e : Ending) (w' : World) : Prop := e = .returned (.bool v) ∧ Nw w w'
set_option maxHeartbeats 1000000 in
theorem inode_1 (w : World) : Calls Try.prog 16 #[.int .i64 1] w fun e w' => e = .returned (.int .i64 6) ∧ w = w' := by
  go_enter Try.func16, Try.ntmps16
  go_wp2
  go_ret
  exact ⟨rfl, rfl⟩
set_option maxHeartbeats 1000000 in
theorem session_4 (w : World) : Calls Try.prog 17 #[.int .i64 4] w fun e w' => e = .returned (.int .i64 (-1)) ∧ w = w' := by
  go_enter Try.func17, Try.ntmps17
  go_wp2
  go_ret
  exact ⟨rfl, rfl⟩
def wk0 : Nat → Lk := fun _ => freeLk
def wk1 : Nat → Lk := (wantS wk0 0 4).1
def wk2 : Nat → Lk := (wantS wk1 1 4).1
def wk3 : Nat → Lk := (wantS wk2 0 3).1
def wk4 : Nat → Lk := giveS wk3 0
set_option maxRecDepth 100000 in
set_option maxHeartbeats 4000000 in
theorem works_any (w : World) : Calls Try.prog 6 #[] w (Yes true w) := by
  have o0 : Ok wk0 2 := ok_start 2 (by omega)
  have o1 : Ok wk1 2 := ok_want o0 0 (by omega) (by omega) 4
  have o2 : Ok wk2 2 := ok_want o1 1 (by omega) (by omega) 4
  have o3 : Ok wk3 2 := ok_want o2 0 (by omega) (by omega) 3
  have f0 : Fit wk0 1000000 := fit_start.mono (by omega)
  have f1 : Fit wk1 1000000 := (fit_want fit_start 0 4).mono (by omega)
  have f2 : Fit wk2 1000000 := (fit_want (fit_want fit_start 0 4) 1 4).mono (by omega)
  have f3 : Fit wk3 1000000 := (fit_want (fit_want (fit_want fit_start 0 4) 1 4) 0 3).mono (by omega)
  have HO3 := Lib.hid (o3.e4 (by omega))
  have HF0 := Lib.hid f0
  have HF1 := Lib.hid f1
  have HF2 := Lib.hid f2
  have HF3 := Lib.hid f3
  clear o0 o1 o2 o3 f0 f1 f2 f3
  go_enter Try.func6, Try.ntmps6
  go_wp2_with fail
  refine (new_yes 2 (by omega) (by omega) w).mono ?_
  rintro e w1 ⟨rfl, rfl⟩
  have HM0 := Lib.hid (Moved.nw (tat_new w 2 49) Nw.refl)
  have HN0 := Lib.hid ((Nw.refl (w := w)).alloc (.cells (tabC 2) 49))
  obtain ⟨t, ht⟩ : ∃ t, w.heap.size = t := ⟨_, rfl⟩
  have HTT := Lib.hid ht
  rw [ht] at HM0 ⊢
  generalize w.alloc (.cells (tabC 2) 49) = W1 at *
  clear ht
  go_wp2_with fail
  refine (want_any t 2 wk0 _ _ HF0.out 0 (by omega) (by omega) (by omega) 4 _ HM0.out.tt).mono ?_
  rintro e w2 ⟨rfl, a2, c2, hm⟩
  rw [show (wantS wk0 0 4).2.1 = true from by kernel_rfl, show (wantS wk0 0 4).2.2 = 0 from by kernel_rfl]
  have HM2 := Lib.hid (show Moved W1 t 2 _ wk1 a2 c2 w2 from HM0.out.then hm)
  clear hm
  go_wp2_with fail
  refine (want_any t 2 wk1 _ _ HF1.out 1 (by omega) (by omega) (by omega) 4 _ HM2.out.tt).mono ?_
  rintro e w3 ⟨rfl, a3, c3, hm⟩
  rw [show (wantS wk1 1 4).2.1 = false from by kernel_rfl, show (wantS wk1 1 4).2.2 = 0 from by kernel_rfl]
  have HM3 := Lib.hid (show Moved W1 t 2 _ wk2 a3 c3 w3 from HM2.out.then hm)
  clear hm
  go_wp2_with fail
  refine (want_any t 2 wk2 _ _ HF2.out 0 (by omega) (by omega) (by omega) 3 _ HM3.out.tt).mono ?_
  rintro e w4 ⟨rfl, a4, c4, hm⟩
  rw [show (wantS wk2 0 3).2.1 = false from by kernel_rfl, show (wantS wk2 0 3).2.2 = 1 from by kernel_rfl]
  have HM4 := Lib.hid (show Moved W1 t 2 _ wk3 a4 c4 w4 from HM3.out.then hm)
  clear hm
  go_wp2_with fail
  refine (give_any t 2 wk3 _ _ HF3.out HO3.out 0 (by omega) (by omega) (by omega) _ HM4.out.tt).mono ?_
  rintro e w5 ⟨ax, cx, rfl, hI, hcx, a5, c5, hm⟩
  have hg : giveO wk3 0 = [1] := by kernel_rfl
  rw [hg] at hI hcx ⊢
  have HM5 := Lib.hid (show Moved W1 t 2 _ wk4 a5 c5 w5 from HM4.out.then hm)
  have HH := Lib.hid (holds_any t 2 wk4 a5 c5 1 (by omega) (by omega) 4 (by omega) w5 HM5.out.tt)
  rw [show ((wk4 4).h == 1 + 1) = true from by kernel_rfl] at HH
  rcases hI with hI | ⟨gb, go, rfl, hgb, hcs⟩
  · cases hI
  have q0 : w5.cell? ⟨gb, go, none⟩ = some (.int .i64 1) := hcs 0 (by decide)
  clear hm hcs hg hcx
  have hw : Calls Try.prog 12 #[.pointer (some ⟨t, 0, none⟩), .int .i64 1, .int .i64 4] w5 fun e w' => e = .returned (.bool true) ∧ w5 = w' := HH.out
  have HWW := Lib.hid hw
  clear hw
  go_wp2_with (first | (go_at_call 12; refine HWW.out.mono ?_; rintro e w' ⟨rfl, rfl⟩) | (go_at_call 16; refine (inode_1 _).mono ?_; rintro e w' ⟨rfl, rfl⟩) | (go_at_call 17; refine (session_4 _).mono ?_; rintro e w' ⟨rfl, rfl⟩))
  go_ret
  exact ⟨rfl, HM5.out.made HN0.out (by rw [HTT.out]; exact Nat.le_refl _)⟩

/-! ### Steps -/
structure St where
  g : Bool
  x : Int
  l : Int
def stC (x : St) : List Value := [.bool x.g, .int .i64 x.x, .int .i64 x.l]
def stOk (x : St) : Prop := (-9223372036854775808 ≤ x.x ∧ x.x ≤ 9223372036854775807) ∧ -9223372036854775808 ≤ x.l ∧ x.l ≤ 9223372036854775807
theorem i64_of_wf {n : Int} (h : (Lit.int .i64 n).wf = true) : -9223372036854775808 ≤ n ∧ n ≤ 9223372036854775807 := by
  simp [Lit.wf, IntKind.min, IntKind.max, IntKind.bits, IntKind.signed] at h
  omega
theorem steps_of {H : Type} {enc : TypeId × Value → H} {P : Program} {w : World} {base : Nat} {spare : Nat → Bool} {held : Bool} {fs : Array Field} {f0 f1 f2 : Field} (h0 : fs[0]? = some f0) (h1 : fs[1]? = some f1) (h2 : fs[2]? = some f2) (hn : fs.size = 3)
    (u0 : P.underlying f0.type = some .bool) (u1 : P.underlying f1.type = some (.int .i64)) (u2 : P.underlying f2.type = some (.int .i64)) {a : Option Addr} {len : Nat}
    (h : len = 0 ∨ ∃ b off, a = some ⟨b, off, none⟩ ∧ b < w.heap.size ∧ ∀ i, i < len → RecAt enc P w base spare held fs b off i) :
    ∃ ss : List St, ss.length = len ∧ Recs stC 3 w.heap.size w a ss ∧ ∀ x ∈ ss, stOk x :=
  recs_make stC 3 w.heap.size w a len stOk (by
    rcases h with h | ⟨b, off, e, hb, hi⟩
    · exact .inl h
    · refine .inr ⟨b, off, e, hb, fun i hil => ?_⟩
      obtain ⟨v0, n0, y0, c0, t0⟩ := hi i hil 0 f0 h0
      obtain ⟨v1, n1, y1, c1, t1⟩ := hi i hil 1 f1 h1
      obtain ⟨v2, n2, y2, c2, t2⟩ := hi i hil 2 f2 h2
      obtain ⟨z0, q0, _⟩ := DataW.trod_bool u0 t0
      obtain ⟨z1, q1, _, g1⟩ := DataW.trod_int u1 t1
      obtain ⟨z2, q2, _, g2⟩ := DataW.trod_int u2 t2
      obtain rfl : v0 = .bool z0 := by simpa using q0
      obtain rfl : v1 = .int .i64 z1 := by simpa using q1
      obtain rfl : v2 = .int .i64 z2 := by simpa using q2
      rw [hn] at c0 c1 c2
      refine ⟨⟨z0, z1, z2⟩, ⟨i64_of_wf g1, i64_of_wf g2⟩, fun j v hv => ?_⟩
      match j, hv with
      | 0, hv => simp [stC] at hv; subst hv; exact c0
      | 1, hv => simp [stC] at hv; subst hv; exact c1
      | 2, hv => simp [stC] at hv; subst hv; exact c2)
theorem steps_at {n₀ : Nat} {W : World} {a : Option Addr} {ss : List St} (h : Recs stC 3 n₀ W a ss) {k : Nat} (hk : k < ss.length) : ∃ b off, a = some ⟨b, off, none⟩ ∧ b < n₀ ∧ W.cell? ⟨b, off + k * 3, none⟩ = some (.bool ss[k].g) ∧ W.cell? ⟨b, off + k * 3 + 1, none⟩ = some (.int .i64 ss[k].x) ∧ W.cell? ⟨b, off + k * 3 + 2, none⟩ = some (.int .i64 ss[k].l) := by
  rcases h with rfl | ⟨b, off, rfl, hb, hc⟩
  · simp at hk
  · exact ⟨b, off, rfl, hb, hc k hk 0 _ rfl, hc k hk 1 _ rfl, hc k hk 2 _ rfl⟩

end Go.Proofs.Ytdjncbfoecoedaa
