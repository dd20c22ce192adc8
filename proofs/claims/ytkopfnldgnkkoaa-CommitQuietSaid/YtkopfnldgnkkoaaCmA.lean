/-
  RUNS: what a run is in memory; one step more.
-/
import Derived.Deep.DeepCutAuto
import Derived.Test.YtkopfnldgnkkoaaDvH
import Derived.Test.YtkopfnldgnkkoaaLcI
namespace Go.Proofs.Ytkopfnldgnkkoaa
open Go.RowKit Go.Shelf
set_option linter.unusedVariables false

/-- What a step does. -/
inductive Op9
  | store (at_ v : Int)
  | flush (line : Int)
  | fence
deriving DecidableEq
/-- A step: its phase, what it does. -/
structure St where
  p : Int
  o : Op9
deriving DecidableEq

/-- A function value that does it, of the run r, whose device is d. -/
def StepV (W : World) (r d : Nat) : Op9 → Value → Prop
  | .store x y, v => ∃ br bw, v = .func (.func 87) #[] #[.pointer (some ⟨br, 0, none⟩), .pointer (some ⟨bw, 0, none⟩)] ∧ Blk W br #[.pointer (some ⟨r, 0, none⟩)] 32 ∧ Blk W bw #[.int .i64 x, .int .u64 y] 41
  | .flush l, v => ∃ br bl, v = .func (.func 90) #[] #[.pointer (some ⟨br, 0, none⟩), .pointer (some ⟨bl, 0, none⟩)] ∧ Blk W br #[.pointer (some ⟨r, 0, none⟩)] 32 ∧ Blk W bl #[.int .i64 l] 3
  | .fence, v => v = .func (.func 92) #[.pointer (some ⟨d, 0, none⟩)] #[]
/-- What changes has nothing of the boxes of steps. -/
def NoBox (W : World) (O : Nat → Prop) : Prop := ∀ k, Tag W k 32 ∨ Tag W k 41 ∨ Tag W k 3 → ¬ O k
theorem StepV.upo {W W' : World} {O : Nat → Prop} {r d : Nat} {o : Op9} {v : Value} (h : StepV W r d o v) (k : UpO O W W') (hO : NoBox W O) : StepV W' r d o v := by
  cases o with
  | store x y =>
    obtain ⟨br, bw, e, h1, h2⟩ := h
    exact ⟨br, bw, e, k.blk h1 (hO _ (.inl h1.tag)), k.blk h2 (hO _ (.inr (.inl h2.tag)))⟩
  | flush l =>
    obtain ⟨br, bl, e, h1, h2⟩ := h
    exact ⟨br, bl, e, k.blk h1 (hO _ (.inl h1.tag)), k.blk h2 (hO _ (.inr (.inr h2.tag)))⟩
  | fence => exact h
theorem StepV.isFunc {W : World} {r d : Nat} {o : Op9} {v : Value} (h : StepV W r d o v) : ∃ fn f c, v = .func fn f c := by
  cases o with
  | store x y => obtain ⟨br, bw, rfl, _⟩ := h; exact ⟨_, _, _, rfl⟩
  | flush l => obtain ⟨br, bl, rfl, _⟩ := h; exact ⟨_, _, _, rfl⟩
  | fence => unfold StepV at h; exact ⟨_, _, _, h⟩
/-- The cells of steps. -/
def stepC : List St → List Value → List Value
  | s :: l, v :: vs => .int .u8 s.p :: v :: stepC l vs
  | _, _ => []
theorem stepC_len : ∀ (l : List St) (vs : List Value), vs.length = l.length → (stepC l vs).length = l.length * 2
  | [], [], _ => rfl
  | [], _ :: _, h => by simp at h
  | _ :: _, [], h => by simp at h
  | s :: l, v :: vs, h => by
    have := stepC_len l vs (by simpa using h)
    simp only [stepC, List.length_cons, this]; omega
theorem stepC_snoc : ∀ (l : List St) (vs : List Value) (s : St) (v : Value), vs.length = l.length → stepC (l ++ [s]) (vs ++ [v]) = stepC l vs ++ [.int .u8 s.p, v]
  | [], [], _, _, _ => rfl
  | [], _ :: _, _, _, h => by simp at h
  | _ :: _, [], _, _, h => by simp at h
  | x :: l, y :: vs, s, v, h => by
    simp only [List.cons_append, stepC]
    rw [stepC_snoc l vs s v (by simpa using h)]
/-- All steps of a list lie there. -/
def StepsV (W : World) (r d : Nat) (L : List St) (vs : List Value) : Prop := vs.length = L.length ∧ ∀ i (h : i < L.length), ∃ v, vs[i]? = some v ∧ StepV W r d L[i].o v
theorem StepsV.nil (W : World) (r d : Nat) : StepsV W r d [] [] := ⟨rfl, fun i h => by simp at h⟩
theorem StepsV.snoc {W : World} {r d : Nat} {L : List St} {vs : List Value} (h : StepsV W r d L vs) {s : St} {v : Value} (hv : StepV W r d s.o v) : StepsV W r d (L ++ [s]) (vs ++ [v]) := by
  refine ⟨by simp [h.1], fun i hi => ?_⟩
  by_cases e : i < L.length
  · obtain ⟨u, hu, hs⟩ := h.2 i e
    exact ⟨u, by rw [List.getElem?_append_left (by rw [h.1]; exact e)]; exact hu, by rw [List.getElem_append_left e]; exact hs⟩
  · simp at hi
    obtain rfl : i = L.length := by omega
    exact ⟨v, by rw [List.getElem?_append_right (by rw [h.1]; exact Nat.le_refl _), h.1, Nat.sub_self]; rfl, by simpa using hv⟩
theorem StepsV.upo {W W' : World} {O : Nat → Prop} {r d : Nat} {L : List St} {vs : List Value} (h : StepsV W r d L vs) (k : UpO O W W') (hO : NoBox W O) : StepsV W' r d L vs :=
  ⟨h.1, fun i hi => by obtain ⟨v, hv, hs⟩ := h.2 i hi; exact ⟨v, hv, hs.upo k hO⟩⟩
theorem StepsV.tail {W : World} {r d : Nat} {s : St} {L : List St} {v : Value} {vs : List Value} (h : StepsV W r d (s :: L) (v :: vs)) : StepV W r d s.o v ∧ StepsV W r d L vs := by
  refine ⟨?_, by simpa using h.1, fun i hi => ?_⟩
  · obtain ⟨u, hu, hs⟩ := h.2 0 (by simp)
    cases hu; exact hs
  · obtain ⟨u, hu, hs⟩ := h.2 (i + 1) (by simpa using hi)
    exact ⟨u, by simpa using hu, by simpa using hs⟩

/-- A run: its device, its geometry, its area, the steps that are left (a: where they lie). -/
structure RunAt (W : World) (r d : Nat) (g : G) (area : Int) (L : List St) (a : Option Addr) : Prop where
  k : ∃ c, Blk W r #[.pointer (some ⟨d, 0, none⟩), .int .i64 g.w, .int .i64 g.i, .int .i64 g.b, .int .i64 area, .slice a L.length c] 79 ∧
    ∃ vs, StepsV W r d L vs ∧ Qs W 94 2 a c (stepC L vs)
/-- The blocks that a run owns. -/
def OwnR9 (r : Nat) (a : Option Addr) (k : Nat) : Prop := k = r ∨ QB a k
theorem RunAt.tag {W : World} {r d : Nat} {g : G} {area : Int} {L : List St} {a : Option Addr} (h : RunAt W r d g area L a) : Tag W r 79 := by
  obtain ⟨c, hk, _⟩ := h.k; exact hk.tag
theorem RunAt.qtag {W : World} {r d : Nat} {g : G} {area : Int} {L : List St} {a : Option Addr} (h : RunAt W r d g area L a) {k : Nat} (hk : QB a k) : Tag W k 94 := by
  obtain ⟨c, _, vs, _, hq⟩ := h.k
  obtain ⟨p, hp, rfl⟩ := hk
  exact hq.tag hp
theorem RunAt.not_own {W : World} {r d : Nat} {g : G} {area : Int} {L : List St} {a : Option Addr} (h : RunAt W r d g area L a) {k : Nat} {t : TypeId} (hk : Tag W k t) (h1 : t ≠ 79) (h2 : t ≠ 94) : ¬ OwnR9 r a k := by
  rintro (rfl | hq)
  · exact hk.ne h.tag h1 rfl
  · exact hk.ne (h.qtag hq) h2 rfl
theorem RunAt.not_qb {W : World} {r d : Nat} {g : G} {area : Int} {L : List St} {a : Option Addr} (h : RunAt W r d g area L a) : ¬ QB a r := fun hq => (h.qtag hq).ne h.tag (by decide) rfl
theorem RunAt.noBox {W : World} {r d : Nat} {g : G} {area : Int} {L : List St} {a : Option Addr} (h : RunAt W r d g area L a) : NoBox W (OwnR9 r a) := by
  rintro k (hk | hk | hk)
  · exact h.not_own hk (by decide) (by decide)
  · exact h.not_own hk (by decide) (by decide)
  · exact h.not_own hk (by decide) (by decide)
theorem RunAt.own_lt {W : World} {r d : Nat} {g : G} {area : Int} {L : List St} {a : Option Addr} (h : RunAt W r d g area L a) {k : Nat} (hk : OwnR9 r a k) : k < W.heap.size := by
  rcases hk with rfl | hk
  · exact h.tag.lt
  · exact (h.qtag hk).lt
theorem RunAt.upo {W W' : World} {O : Nat → Prop} {r d : Nat} {g : G} {area : Int} {L : List St} {a : Option Addr} (h : RunAt W r d g area L a) (k : UpO O W W') (hr : ¬ O r) (ha : ∀ x, QB a x → ¬ O x) (hO : NoBox W O) : RunAt W' r d g area L a := by
  obtain ⟨c, hk, vs, hs, hq⟩ := h.k
  exact ⟨c, k.blk hk hr, vs, hs.upo k hO, hq.upo k (fun p hp => ha _ ⟨p, hp, rfl⟩)⟩
theorem RunAt.nw {W W' : World} {r d : Nat} {g : G} {area : Int} {L : List St} {a : Option Addr} (h : RunAt W r d g area L a) (k : Nw W W') : RunAt W' r d g area L a :=
  h.upo (O := fun _ => False) (.of_nw k) (fun h => h) (fun _ _ h => h) (fun _ _ h => h)
/-- A run from one moment to the next: it has turned its own blocks alone. -/
structure RunM (w : World) (r d : Nat) (g : G) (area : Int) (a : Option Addr) (L : List St) (a' : Option Addr) (w' : World) : Prop where
  rr : RunAt w' r d g area L a'
  u : UpO (OwnR9 r a) w w'
  o : ∀ k, OwnR9 r a' k → OwnR9 r a k ∨ w.heap.size ≤ k
def RunG (w : World) (r d : Nat) (g : G) (area : Int) (a : Option Addr) (L : List St) (v : Value) (e : Ending) (w' : World) : Prop := e = .returned v ∧ ∃ a', RunM w r d g area a L a' w'
theorem RunM.refl {w : World} {r d : Nat} {g : G} {area : Int} {a : Option Addr} {L : List St} (h : RunAt w r d g area L a) : RunM w r d g area a L a w := ⟨h, .refl _ _, fun _ hk => .inl hk⟩
theorem RunM.then {w w1 w2 : World} {r d : Nat} {g : G} {area : Int} {a a1 a2 : Option Addr} {L1 L2 : List St} (h : RunM w r d g area a L1 a1 w1) (k : RunM w1 r d g area a1 L2 a2 w2) : RunM w r d g area a L2 a2 w2 :=
  ⟨k.rr, h.u.trans k.u h.o, fun x hx => by
    rcases k.o x hx with h1 | h1
    · exact h.o x h1
    · exact .inr (Nat.le_trans h.u.size h1)⟩
theorem RunM.nw {w w1 w2 : World} {r d : Nat} {g : G} {area : Int} {a a1 : Option Addr} {L1 : List St} (h : RunM w r d g area a L1 a1 w1) (k : Nw w1 w2) : RunM w r d g area a L1 a1 w2 := ⟨h.rr.nw k, h.u.nw k, h.o⟩
theorem RunM.pre {w0 w w1 : World} {r d : Nat} {g : G} {area : Int} {a a1 : Option Addr} {L1 : List St} (n : Nw w0 w) (h : RunM w r d g area a L1 a1 w1) : RunM w0 r d g area a L1 a1 w1 :=
  ⟨h.rr, .pre n h.u, fun k hk => (h.o k hk).imp id (fun hh => Nat.le_trans n.b.size hh)⟩

theorem info_step : (Try.prog.info? 94).map (fun i => (i.zero, i.size, i.bytes)) = some (some (.agg #[.int .u8 0, .nilFunc]), 2, 16) := by kernel_rfl

set_option maxRecDepth 100000 in
set_option maxHeartbeats 2000000 in
theorem push_any (r d : Nat) (g : G) (area : Int) (L : List St) (a : Option Addr) (hL : L.length ≤ 100000) (p : Int) (o : Op9) (v : Value) (w : World) (h : RunAt w r d g area L a) (hv : StepV w r d o v) :
    Calls Try.prog 86 #[.pointer (some ⟨r, 0, none⟩), .int .u8 p, v] w (fun e w' => (∃ u, e = .returned u) ∧ ∃ a', RunM w r d g area a (L ++ [⟨p, o⟩]) a' w') := by
  obtain ⟨i0, hi, hz0, hz1, hz2⟩ := info_parts8 info_step
  have HR := Lib.hid h
  obtain ⟨c, hk, vs, hs, hq⟩ := h.k
  have HK := Lib.hid hk
  have HS := Lib.hid hs
  have HV := Lib.hid hv
  have HQ := Lib.hid hq
  have hc5 : w.cell? ⟨r, 5, none⟩ = some (.slice a L.length c) := hk.cell rfl
  obtain ⟨fn, fb, fc, rfl⟩ := hv.isFunc
  clear h hk hs hq hv
  go_enter Try.func86, Try.ntmps86
  have hNA := (Nw.refl (w := w)).alloc (.cells #[.int .u8 p, .func fn fb fc] 94)
  have hlen := stepC_len L vs HS.out.1
  go_wp2_with (first | (at_builtin; go_loud (refine wpList_append_qs _ rfl (.tmp 10) (.tmp 14) 77 rfl 94 i0 (.agg #[.int .u8 0, .nilFunc]) 2 16 Try.underlying77 hi hz0 hz1 hz2 rfl (by decide) a L.length c (stepC L vs) rfl hlen (HQ.out.nw hNA) (by unfold maxLen; omega) (by omega) ⟨w.heap.size, 0, none⟩ 1 [.int .u8 p, .func fn fb fc] rfl rfl (two_cells _ _ _ _) (by intro u hu; simp at hu; rcases hu with rfl | rfl <;> rfl) ?_); intro a1 c1 w1 hq1 hu1 hn1; have hk1 := hu1.blk (HK.out.nw hNA) (fun hx => HR.out.not_qb hx); clear hc5; have hc5 := hk1.cell (j := 5) rfl; have hf5 := hk1.frozen 5; have HK1 := Lib.hid hk1; have HQ1 := Lib.hid hq1; have HU1 := Lib.hid hu1; have HN1 := Lib.hid hn1; clear hk1 hq1 hu1 hn1) | fail)
  go_end0
  have hsz : w.heap.size ≤ (w.alloc (.cells #[.int .u8 p, .func fn fb fc] 94)).heap.size := hNA.b.size
  have hu : UpO (OwnR9 r a) w (w1.setCell ⟨r, 5, none⟩ (.slice a1 (L.length + 1) c1)) := (UpO.pre hNA (HU1.out.mono (fun _ hx => .inr hx))).set (.inl rfl) _ _
  have hrl := HR.out.tag.lt
  have hne : ∀ q, a1 = some q → q.block ≠ r := by
    intro q hq e
    rcases HN1.out q hq with h1 | h1
    · exact HR.out.not_qb (e ▸ h1)
    · omega
  refine ⟨⟨_, rfl⟩, a1, ⟨⟨c1, ?_, vs ++ [.func fn fb fc], (HS.out.upo hu HR.out.noBox).snoc (HV.out.upo hu HR.out.noBox), ?_⟩⟩, hu, fun k hk => ?_⟩
  · have := HK1.out.set 5 (.slice a1 (L.length + 1) c1)
    rw [List.length_append]
    exact this
  · rw [stepC_snoc L vs ⟨p, o⟩ _ HS.out.1]
    exact HQ1.out.upo (O := fun x => x = r) (.of_up ((Up.refl r w1).set 5 _) rfl) hne
  · rcases hk with rfl | ⟨q, hq, rfl⟩
    · exact .inl (.inl rfl)
    · rcases HN1.out q hq with h1 | h1
      · exact .inl (.inr h1)
      · exact .inr (by omega)

end Go.Proofs.Ytkopfnldgnkkoaa
