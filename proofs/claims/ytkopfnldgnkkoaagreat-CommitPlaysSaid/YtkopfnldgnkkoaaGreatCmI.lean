import Derived.Deep.DeepCutAuto
import Derived.Test.YtkopfnldgnkkoaaGreatDvH
import Derived.Test.YtkopfnldgnkkoaaGreatLcI
import Derived.Deep.RegionHeld3

/-
  RUNS: what a run is in memory; one step more.
-/
namespace Go.Proofs.YtkopfnldgnkkoaaGreat
open Go.RowKit Go.Shelf
set_option linter.unusedVariables false

/-- What a step does. -/
inductive Op9
  | store (at_ v : Int)
  | flush (line : Int)
  | fence
deriving DecidableEq
/-- A step: its phase, what it does. -/
structure St where
  p : Int
  o : Op9
deriving DecidableEq

/-- A function value that does it, of the run r, whose device is d. -/
def StepV (W : World) (r d : Nat) : Op9 → Value → Prop
  | .store x y, v => ∃ br bw, v = .func (.func 112) #[] #[.pointer (some ⟨br, 0, none⟩), .pointer (some ⟨bw, 0, none⟩)] ∧ Blk W br #[.pointer (some ⟨r, 0, none⟩)] 48 ∧ Blk W bw #[.int .i64 x, .int .u64 y] 91
  | .flush l, v => ∃ br bl, v = .func (.func 115) #[] #[.pointer (some ⟨br, 0, none⟩), .pointer (some ⟨bl, 0, none⟩)] ∧ Blk W br #[.pointer (some ⟨r, 0, none⟩)] 48 ∧ Blk W bl #[.int .i64 l] 3
  | .fence, v => v = .func (.func 117) #[.pointer (some ⟨d, 0, none⟩)] #[]
/-- What changes has nothing of the boxes of steps. -/
def NoBox (W : World) (O : Nat → Prop) : Prop := ∀ k, Tag W k 48 ∨ Tag W k 91 ∨ Tag W k 3 → ¬ O k
theorem StepV.upo {W W' : World} {O : Nat → Prop} {r d : Nat} {o : Op9} {v : Value} (h : StepV W r d o v) (k : UpO O W W') (hO : NoBox W O) : StepV W' r d o v := by
  cases o with
  | store x y =>
    obtain ⟨br, bw, e, h1, h2⟩ := h
    exact ⟨br, bw, e, k.blk h1 (hO _ (.inl h1.tag)), k.blk h2 (hO _ (.inr (.inl h2.tag)))⟩
  | flush l =>
    obtain ⟨br, bl, e, h1, h2⟩ := h
    exact ⟨br, bl, e, k.blk h1 (hO _ (.inl h1.tag)), k.blk h2 (hO _ (.inr (.inr h2.tag)))⟩
  | fence => exact h
theorem StepV.isFunc {W : World} {r d : Nat} {o : Op9} {v : Value} (h : StepV W r d o v) : ∃ fn f c, v = .func fn f c := by
  cases o with
  | store x y => obtain ⟨br, bw, rfl, _⟩ := h; exact ⟨_, _, _, rfl⟩
  | flush l => obtain ⟨br, bl, rfl, _⟩ := h; exact ⟨_, _, _, rfl⟩
  | fence => unfold StepV at h; exact ⟨_, _, _, h⟩
/-- The cells of steps. -/
def stepC : List St → List Value → List Value
  | s :: l, v :: vs => .int .u8 s.p :: v :: stepC l vs
  | _, _ => []
theorem stepC_len : ∀ (l : List St) (vs : List Value), vs.length = l.length → (stepC l vs).length = l.length * 2
  | [], [], _ => rfl
  | [], _ :: _, h => by simp at h
  | _ :: _, [], h => by simp at h
  | s :: l, v :: vs, h => by
    have := stepC_len l vs (by simpa using h)
    simp only [stepC, List.length_cons, this]; omega
theorem stepC_snoc : ∀ (l : List St) (vs : List Value) (s : St) (v : Value), vs.length = l.length → stepC (l ++ [s]) (vs ++ [v]) = stepC l vs ++ [.int .u8 s.p, v]
  | [], [], _, _, _ => rfl
  | [], _ :: _, _, _, h => by simp at h
  | _ :: _, [], _, _, h => by simp at h
  | x :: l, y :: vs, s, v, h => by
    simp only [List.cons_append, stepC]
    rw [stepC_snoc l vs s v (by simpa using h)]
/-- All steps of a list lie there. -/
def StepsV (W : World) (r d : Nat) (L : List St) (vs : List Value) : Prop := vs.length = L.length ∧ ∀ i (h : i < L.length), ∃ v, vs[i]? = some v ∧ StepV W r d L[i].o v
theorem StepsV.nil (W : World) (r d : Nat) : StepsV W r d [] [] := ⟨rfl, fun i h => by simp at h⟩
theorem StepsV.snoc {W : World} {r d : Nat} {L : List St} {vs : List Value} (h : StepsV W r d L vs) {s : St} {v : Value} (hv : StepV W r d s.o v) : StepsV W r d (L ++ [s]) (vs ++ [v]) := by
  refine ⟨by simp [h.1], fun i hi => ?_⟩
  by_cases e : i < L.length
  · obtain ⟨u, hu, hs⟩ := h.2 i e
    exact ⟨u, by rw [List.getElem?_append_left (by rw [h.1]; exact e)]; exact hu, by rw [List.getElem_append_left e]; exact hs⟩
  · simp at hi
    obtain rfl : i = L.length := by omega
    exact ⟨v, by rw [List.getElem?_append_right (by rw [h.1]; exact Nat.le_refl _), h.1, Nat.sub_self]; rfl, by simpa using hv⟩
theorem StepsV.upo {W W' : World} {O : Nat → Prop} {r d : Nat} {L : List St} {vs : List Value} (h : StepsV W r d L vs) (k : UpO O W W') (hO : NoBox W O) : StepsV W' r d L vs :=
  ⟨h.1, fun i hi => by obtain ⟨v, hv, hs⟩ := h.2 i hi; exact ⟨v, hv, hs.upo k hO⟩⟩
theorem StepsV.tail {W : World} {r d : Nat} {s : St} {L : List St} {v : Value} {vs : List Value} (h : StepsV W r d (s :: L) (v :: vs)) : StepV W r d s.o v ∧ StepsV W r d L vs := by
  refine ⟨?_, by simpa using h.1, fun i hi => ?_⟩
  · obtain ⟨u, hu, hs⟩ := h.2 0 (by simp)
    cases hu; exact hs
  · obtain ⟨u, hu, hs⟩ := h.2 (i + 1) (by simpa using hi)
    exact ⟨u, by simpa using hu, by simpa using hs⟩

/-- A run: its device, its geometry, its area, the steps that are left (a: where they lie). -/
structure RunAt (W : World) (r d : Nat) (g : G) (area : Int) (L : List St) (a : Option Addr) : Prop where
  k : ∃ c, Blk W r #[.pointer (some ⟨d, 0, none⟩), .int .i64 g.w, .int .i64 g.i, .int .i64 g.b, .int .i64 area, .slice a L.length c] 104 ∧
    ∃ vs, StepsV W r d L vs ∧ Qs W 145 2 a c (stepC L vs)
/-- The blocks that a run owns. -/
def OwnR9 (r : Nat) (a : Option Addr) (k : Nat) : Prop := k = r ∨ QB a k
theorem RunAt.tag {W : World} {r d : Nat} {g : G} {area : Int} {L : List St} {a : Option Addr} (h : RunAt W r d g area L a) : Tag W r 104 := by
  obtain ⟨c, hk, _⟩ := h.k; exact hk.tag
theorem RunAt.qtag {W : World} {r d : Nat} {g : G} {area : Int} {L : List St} {a : Option Addr} (h : RunAt W r d g area L a) {k : Nat} (hk : QB a k) : Tag W k 145 := by
  obtain ⟨c, _, vs, _, hq⟩ := h.k
  obtain ⟨p, hp, rfl⟩ := hk
  exact hq.tag hp
theorem RunAt.not_own {W : World} {r d : Nat} {g : G} {area : Int} {L : List St} {a : Option Addr} (h : RunAt W r d g area L a) {k : Nat} {t : TypeId} (hk : Tag W k t) (h1 : t ≠ 104) (h2 : t ≠ 145) : ¬ OwnR9 r a k := by
  rintro (rfl | hq)
  · exact hk.ne h.tag h1 rfl
  · exact hk.ne (h.qtag hq) h2 rfl
theorem RunAt.not_qb {W : World} {r d : Nat} {g : G} {area : Int} {L : List St} {a : Option Addr} (h : RunAt W r d g area L a) : ¬ QB a r := fun hq => (h.qtag hq).ne h.tag (by decide) rfl
theorem RunAt.noBox {W : World} {r d : Nat} {g : G} {area : Int} {L : List St} {a : Option Addr} (h : RunAt W r d g area L a) : NoBox W (OwnR9 r a) := by
  rintro k (hk | hk | hk)
  · exact h.not_own hk (by decide) (by decide)
  · exact h.not_own hk (by decide) (by decide)
  · exact h.not_own hk (by decide) (by decide)
theorem RunAt.own_lt {W : World} {r d : Nat} {g : G} {area : Int} {L : List St} {a : Option Addr} (h : RunAt W r d g area L a) {k : Nat} (hk : OwnR9 r a k) : k < W.heap.size := by
  rcases hk with rfl | hk
  · exact h.tag.lt
  · exact (h.qtag hk).lt
theorem RunAt.upo {W W' : World} {O : Nat → Prop} {r d : Nat} {g : G} {area : Int} {L : List St} {a : Option Addr} (h : RunAt W r d g area L a) (k : UpO O W W') (hr : ¬ O r) (ha : ∀ x, QB a x → ¬ O x) (hO : NoBox W O) : RunAt W' r d g area L a := by
  obtain ⟨c, hk, vs, hs, hq⟩ := h.k
  exact ⟨c, k.blk hk hr, vs, hs.upo k hO, hq.upo k (fun p hp => ha _ ⟨p, hp, rfl⟩)⟩
theorem RunAt.nw {W W' : World} {r d : Nat} {g : G} {area : Int} {L : List St} {a : Option Addr} (h : RunAt W r d g area L a) (k : Nw W W') : RunAt W' r d g area L a :=
  h.upo (O := fun _ => False) (.of_nw k) (fun h => h) (fun _ _ h => h) (fun _ _ h => h)
/-- A run from one moment to the next: it has turned its own blocks alone. -/
structure RunM (w : World) (r d : Nat) (g : G) (area : Int) (a : Option Addr) (L : List St) (a' : Option Addr) (w' : World) : Prop where
  rr : RunAt w' r d g area L a'
  u : UpO (OwnR9 r a) w w'
  o : ∀ k, OwnR9 r a' k → OwnR9 r a k ∨ w.heap.size ≤ k
def RunG (w : World) (r d : Nat) (g : G) (area : Int) (a : Option Addr) (L : List St) (v : Value) (e : Ending) (w' : World) : Prop := e = .returned v ∧ ∃ a', RunM w r d g area a L a' w'
theorem RunM.refl {w : World} {r d : Nat} {g : G} {area : Int} {a : Option Addr} {L : List St} (h : RunAt w r d g area L a) : RunM w r d g area a L a w := ⟨h, .refl _ _, fun _ hk => .inl hk⟩
theorem RunM.then {w w1 w2 : World} {r d : Nat} {g : G} {area : Int} {a a1 a2 : Option Addr} {L1 L2 : List St} (h : RunM w r d g area a L1 a1 w1) (k : RunM w1 r d g area a1 L2 a2 w2) : RunM w r d g area a L2 a2 w2 :=
  ⟨k.rr, h.u.trans k.u h.o, fun x hx => by
    rcases k.o x hx with h1 | h1
    · exact h.o x h1
    · exact .inr (Nat.le_trans h.u.size h1)⟩
theorem RunM.nw {w w1 w2 : World} {r d : Nat} {g : G} {area : Int} {a a1 : Option Addr} {L1 : List St} (h : RunM w r d g area a L1 a1 w1) (k : Nw w1 w2) : RunM w r d g area a L1 a1 w2 := ⟨h.rr.nw k, h.u.nw k, h.o⟩
theorem RunM.pre {w0 w w1 : World} {r d : Nat} {g : G} {area : Int} {a a1 : Option Addr} {L1 : List St} (n : Nw w0 w) (h : RunM w r d g area a L1 a1 w1) : RunM w0 r d g area a L1 a1 w1 :=
  ⟨h.rr, .pre n h.u, fun k hk => (h.o k hk).imp id (fun hh => Nat.le_trans n.b.size hh)⟩

theorem info_step : (Tryz.prog.info? 145).map (fun i => (i.zero, i.size, i.bytes)) = some (some (.agg #[.int .u8 0, .nilFunc]), 2, 16) := by kernel_rfl

set_option maxRecDepth 100000 in
set_option maxHeartbeats 2000000 in
theorem push_any (r d : Nat) (g : G) (area : Int) (L : List St) (a : Option Addr) (hL : L.length ≤ 100000) (p : Int) (o : Op9) (v : Value) (w : World) (h : RunAt w r d g area L a) (hv : StepV w r d o v) :
    Calls Tryz.prog 111 #[.pointer (some ⟨r, 0, none⟩), .int .u8 p, v] w (fun e w' => (∃ u, e = .returned u) ∧ ∃ a', RunM w r d g area a (L ++ [⟨p, o⟩]) a' w') := by
  obtain ⟨i0, hi, hz0, hz1, hz2⟩ := info_parts8 info_step
  have HR := Lib.hid h
  obtain ⟨c, hk, vs, hs, hq⟩ := h.k
  have HK := Lib.hid hk
  have HS := Lib.hid hs
  have HV := Lib.hid hv
  have HQ := Lib.hid hq
  have hc5 : w.cell? ⟨r, 5, none⟩ = some (.slice a L.length c) := hk.cell rfl
  obtain ⟨fn, fb, fc, rfl⟩ := hv.isFunc
  clear h hk hs hq hv
  go_enter Tryz.func111, Tryz.ntmps111
  have hNA := (Nw.refl (w := w)).alloc (.cells #[.int .u8 p, .func fn fb fc] 145)
  have hlen := stepC_len L vs HS.out.1
  go_wp2_with (first | (at_builtin; go_loud (refine wpList_append_qs _ rfl (.tmp 10) (.tmp 14) 102 rfl 145 i0 (.agg #[.int .u8 0, .nilFunc]) 2 16 Tryz.underlying102 hi hz0 hz1 hz2 rfl (by decide) a L.length c (stepC L vs) rfl hlen (HQ.out.nw hNA) (by unfold maxLen; omega) (by omega) ⟨w.heap.size, 0, none⟩ 1 [.int .u8 p, .func fn fb fc] rfl rfl (two_cells _ _ _ _) (by intro u hu; simp at hu; rcases hu with rfl | rfl <;> rfl) ?_); intro a1 c1 w1 hq1 hu1 hn1; have hk1 := hu1.blk (HK.out.nw hNA) (fun hx => HR.out.not_qb hx); clear hc5; have hc5 := hk1.cell (j := 5) rfl; have hf5 := hk1.frozen 5; have HK1 := Lib.hid hk1; have HQ1 := Lib.hid hq1; have HU1 := Lib.hid hu1; have HN1 := Lib.hid hn1; clear hk1 hq1 hu1 hn1) | fail)
  go_end0
  have hsz : w.heap.size ≤ (w.alloc (.cells #[.int .u8 p, .func fn fb fc] 145)).heap.size := hNA.b.size
  have hu : UpO (OwnR9 r a) w (w1.setCell ⟨r, 5, none⟩ (.slice a1 (L.length + 1) c1)) := (UpO.pre hNA (HU1.out.mono (fun _ hx => .inr hx))).set (.inl rfl) _ _
  have hrl := HR.out.tag.lt
  have hne : ∀ q, a1 = some q → q.block ≠ r := by
    intro q hq e
    rcases HN1.out q hq with h1 | h1
    · exact HR.out.not_qb (e ▸ h1)
    · omega
  refine ⟨⟨_, rfl⟩, a1, ⟨⟨c1, ?_, vs ++ [.func fn fb fc], (HS.out.upo hu HR.out.noBox).snoc (HV.out.upo hu HR.out.noBox), ?_⟩⟩, hu, fun k hk => ?_⟩
  · have := HK1.out.set 5 (.slice a1 (L.length + 1) c1)
    rw [List.length_append]
    exact this
  · rw [stepC_snoc L vs ⟨p, o⟩ _ HS.out.1]
    exact HQ1.out.upo (O := fun x => x = r) (.of_up ((Up.refl r w1).set 5 _) rfl) hne
  · rcases hk with rfl | ⟨q, hq, rfl⟩
    · exact .inl (.inl rfl)
    · rcases HN1.out q hq with h1 | h1
      · exact .inl (.inr h1)
      · exact .inr (by omega)

end Go.Proofs.YtkopfnldgnkkoaaGreat

/-
  RUNS: what a step does; Step, Left, Phase.
-/
namespace Go.Proofs.YtkopfnldgnkkoaaGreat
open Go.RowKit Go.Shelf
set_option linter.unusedVariables false

def doOp : Op9 → (Nat → Wd) → (Nat → Wd)
  | .store x v, f => upd f x.toNat (storeW (f x.toNat) v)
  | .flush l, f => flushU l.toNat f
  | .fence, f => fenceU f
def okOp (N : Nat) : Op9 → Prop
  | .store x _ => 0 ≤ x ∧ x < N
  | .flush l => 0 ≤ l ∧ l * 8 < N
  | .fence => True
set_option maxHeartbeats 2000000 in
theorem stores1_any (r d b N br bw : Nat) (f : Nat → Wd) (k : Nat) (hk : k < N) (v : Int) (w : World) (h : DevAt w d b N f) (hr : Blk w br #[.pointer (some ⟨r, 0, none⟩)] 48) (hw : Blk w bw #[.int .i64 (k : Int), .int .u64 v] 91)
    (hR : Tag w r 104) (hd : w.cell? ⟨r, 0, none⟩ = some (.pointer (some ⟨d, 0, none⟩))) :
    Calls Tryz.prog 112 #[.pointer (some ⟨br, 0, none⟩), .pointer (some ⟨bw, 0, none⟩)] w (DevG w d b N (upd f k (storeW (f k) v))) := by
  have hc := hr.cell (j := 0) rfl
  have hw0 := hw.cell (j := 0) rfl
  have hw1 := hw.cell (j := 1) rfl
  simp only [List.getElem_toArray, List.getElem_cons_zero, List.getElem_cons_succ] at hc hw0 hw1
  have HS := Lib.hid (store_any d b N f k hk v w.drew (h.nw Nw.refl.drew))
  have HK : Hid (∀ W', Up b w.drew W' → W'.cell? ⟨br, 0, none⟩ = some (.pointer (some ⟨r, 0, none⟩)) ∧ W'.cell? ⟨r, 0, none⟩ = some (.pointer (some ⟨d, 0, none⟩)) ∧ W'.cell? ⟨bw, 0, none⟩ = some (.int .i64 (k : Int)) ∧ W'.cell? ⟨bw, 1, none⟩ = some (.int .u64 v)) := by
    intro W' u
    have n1 := hr.tag.ne h.a.ty (by decide)
    have n2 := hR.ne h.a.ty (by decide)
    have n3 := hw.tag.ne h.a.ty (by decide)
    exact ⟨u.cell hc n1, u.cell hd n2, u.cell hw0 n3, u.cell hw1 n3⟩
  clear h hr hw hR
  go_enter Tryz.func112, Tryz.ntmps112
  go_wp2_with fail
  go_region_held3 (fun w' => w'.cell? ⟨br, 0, none⟩ = some (.pointer (some ⟨r, 0, none⟩)) ∧ w'.cell? ⟨r, 0, none⟩ = some (.pointer (some ⟨d, 0, none⟩)) ∧ w'.cell? ⟨bw, 0, none⟩ = some (.int .i64 (k : Int)) ∧ w'.cell? ⟨bw, 1, none⟩ = some (.int .u64 v))
    (first | (exact ⟨hc, hd, hw0, hw1⟩) | (exact hk9))
    ((first | (go_at_call 16; refine HS.out.mono ?_; rintro e w2 ⟨rfl, h2, u2⟩; have hk9 := HK.out _ u2)))
  go_wp2_with fail
  go_ret
  exact ⟨rfl, h2, (Up.of_nw (t := b) Nw.refl.drew).trans u2⟩

set_option maxHeartbeats 2000000 in
theorem settles1_any (r d b N br bl : Nat) (f : Nat → Wd) (k : Nat) (hk : k * 8 < N) (w : World) (h : DevAt w d b N f) (hr : Blk w br #[.pointer (some ⟨r, 0, none⟩)] 48) (hw : Blk w bl #[.int .i64 (k : Int)] 3)
    (hR : Tag w r 104) (hd : w.cell? ⟨r, 0, none⟩ = some (.pointer (some ⟨d, 0, none⟩))) :
    Calls Tryz.prog 115 #[.pointer (some ⟨br, 0, none⟩), .pointer (some ⟨bl, 0, none⟩)] w (DevG w d b N (flushU k f)) := by
  have hc := hr.cell (j := 0) rfl
  have hw0 := hw.cell (j := 0) rfl
  simp only [List.getElem_toArray, List.getElem_cons_zero] at hc hw0
  have HS := Lib.hid (flush_any d b N f k hk w.drew (h.nw Nw.refl.drew))
  have HK : Hid (∀ W', Up b w.drew W' → W'.cell? ⟨br, 0, none⟩ = some (.pointer (some ⟨r, 0, none⟩)) ∧ W'.cell? ⟨r, 0, none⟩ = some (.pointer (some ⟨d, 0, none⟩)) ∧ W'.cell? ⟨bl, 0, none⟩ = some (.int .i64 (k : Int))) := by
    intro W' u
    have n1 := hr.tag.ne h.a.ty (by decide)
    have n2 := hR.ne h.a.ty (by decide)
    have n3 := hw.tag.ne h.a.ty (by decide)
    exact ⟨u.cell hc n1, u.cell hd n2, u.cell hw0 n3⟩
  clear h hr hw hR
  go_enter Tryz.func115, Tryz.ntmps115
  go_wp2_with fail
  go_region_held3 (fun w' => w'.cell? ⟨br, 0, none⟩ = some (.pointer (some ⟨r, 0, none⟩)) ∧ w'.cell? ⟨r, 0, none⟩ = some (.pointer (some ⟨d, 0, none⟩)) ∧ w'.cell? ⟨bl, 0, none⟩ = some (.int .i64 (k : Int)))
    (first | (exact ⟨hc, hd, hw0⟩) | (exact hk9))
    ((first | (go_at_call 116; refine HS.out.mono ?_; rintro e w2 ⟨rfl, h2, u2⟩; have hk9 := HK.out _ u2)))
  go_wp2_with fail
  go_ret
  exact ⟨rfl, h2, (Up.of_nw (t := b) Nw.refl.drew).trans u2⟩

set_option maxHeartbeats 1000000 in
theorem left_nil (w : World) : Calls Tryz.prog 26 #[.pointer none] w fun e w' => e = .returned (.int .i64 0) ∧ w = w' := by
  go_enter Tryz.func26, Tryz.ntmps26
  go_wp2_with fail
  go_ret
  exact ⟨rfl, rfl⟩
set_option maxHeartbeats 1000000 in
theorem left_any (r d : Nat) (g : G) (area : Int) (L : List St) (a : Option Addr) (hL : L.length ≤ 100000) (w : World) (h : RunAt w r d g area L a) :
    Calls Tryz.prog 26 #[.pointer (some ⟨r, 0, none⟩)] w fun e w' => e = .returned (.int .i64 (L.length : Nat)) ∧ w = w' := by
  obtain ⟨c, hk, _⟩ := h.k
  have hc5 : w.cell? ⟨r, 5, none⟩ = some (.slice a L.length c) := hk.cell rfl
  clear h hk
  generalize L.length = n at *
  go_enter Tryz.func26, Tryz.ntmps26
  go_wp2_with fail
  go_ret
  exact ⟨rfl, rfl⟩
def phaseOf : List St → Int
  | [] => 0
  | s :: _ => s.p
set_option maxHeartbeats 1000000 in
theorem phase_nil (w : World) : Calls Tryz.prog 24 #[.pointer none] w fun e w' => e = .returned (.int .u8 0) ∧ w = w' := by
  go_enter Tryz.func24, Tryz.ntmps24
  go_wp2_with fail
  refine (left_nil w).mono ?_
  rintro e w1 ⟨rfl, rfl⟩
  go_wp2_with fail
  go_ret
  exact ⟨rfl, rfl⟩
/-- The first step's cells. -/
theorem RunAt.first {w : World} {r d : Nat} {g : G} {area : Int} {s : St} {L : List St} {a : Option Addr} (h : RunAt w r d g area (s :: L) a) :
    ∃ qb qo c v vs, a = some ⟨qb, qo, none⟩ ∧ Blk w r #[.pointer (some ⟨d, 0, none⟩), .int .i64 g.w, .int .i64 g.i, .int .i64 g.b, .int .i64 area, .slice a (L.length + 1) c] 104 ∧ L.length + 1 ≤ c ∧ StepV w r d s.o v ∧ StepsV w r d L vs ∧
      Qs w 145 2 a c (.int .u8 s.p :: v :: stepC L vs) ∧ w.cell? ⟨qb, qo, none⟩ = some (.int .u8 s.p) ∧ w.cell? ⟨qb, qo + 1, none⟩ = some v := by
  obtain ⟨c, hk, vs, hs, hq⟩ := h.k
  match vs, hs with
  | [], hs => exact absurd hs.1 (by simp)
  | v :: vs, hs =>
    obtain ⟨hv, hs'⟩ := hs.tail
    have hlen := stepC_len L vs hs'.1
    have hq' : Qs w 145 2 a c (.int .u8 s.p :: v :: stepC L vs) := hq
    have hle := hq'.len
    rcases hq with ⟨_, h0, _⟩ | ⟨qb, qo, rfl, ht, h1, h2, h3, h4⟩
    · simp [stepC] at h0
    · simp only [List.length_cons, hlen] at hle
      refine ⟨qb, qo, c, v, vs, rfl, hk, by omega, hv, hs', hq', ?_, ?_⟩
      · exact h4 0 (by simp [stepC])
      · exact h4 1 (by simp [stepC])
set_option maxHeartbeats 1000000 in
theorem phase_any (r d : Nat) (g : G) (area : Int) (L : List St) (a : Option Addr) (hL : L.length ≤ 100000) (w : World) (h : RunAt w r d g area L a) :
    Calls Tryz.prog 24 #[.pointer (some ⟨r, 0, none⟩)] w fun e w' => e = .returned (.int .u8 (phaseOf L)) ∧ w = w' := by
  have HL := Lib.hid (left_any r d g area L a hL w h)
  cases L with
  | nil =>
    clear h
    go_enter Tryz.func24, Tryz.ntmps24
    go_wp2_with fail
    refine HL.out.mono ?_
    rintro e w1 ⟨rfl, rfl⟩
    go_wp2_with fail
    go_ret
    exact ⟨rfl, rfl⟩
  | cons s L =>
    obtain ⟨qb, qo, c, v, vs, rfl, hk, hle, _, _, _, p1, p2⟩ := h.first
    have hc5 : w.cell? ⟨r, 5, none⟩ = some (.slice (some ⟨qb, qo, none⟩) (L.length + 1) c) := hk.cell rfl
    rw [List.length_cons] at HL hL
    clear h hk
    generalize L.length = n at *
    obtain ⟨sp, hsp⟩ : ∃ sp, s.p = sp := ⟨_, rfl⟩
    have HSP : Hid (phaseOf (s :: L) = sp) := hsp
    rw [hsp] at p1
    clear hsp
    go_enter Tryz.func24, Tryz.ntmps24
    go_wp2_with fail
    refine HL.out.mono ?_
    rintro e w1 ⟨rfl, rfl⟩
    go_wp2_with fail
    go_ret
    exact ⟨by rw [HSP.out]; rfl, rfl⟩

end Go.Proofs.YtkopfnldgnkkoaaGreat

/-
  RUNS: Step.
-/
namespace Go.Proofs.YtkopfnldgnkkoaaGreat
open Go.RowKit Go.Shelf
set_option linter.unusedVariables false

set_option maxRecDepth 100000 in
set_option maxHeartbeats 1000000 in
theorem step_nil (w : World) : Calls Tryz.prog 22 #[.pointer none] w fun e w' => e = .returned (.tuple #[.int .u8 0, .int .i64 2]) ∧ w = w' := by
  go_enter Tryz.func22, Tryz.ntmps22
  go_wp2_with fail
  go_ret2
  exact ⟨rfl, rfl⟩
set_option maxRecDepth 100000 in
set_option maxHeartbeats 1000000 in
theorem step_none (r d : Nat) (g : G) (area : Int) (a : Option Addr) (w : World) (h : RunAt w r d g area [] a) :
    Calls Tryz.prog 22 #[.pointer (some ⟨r, 0, none⟩)] w fun e w' => e = .returned (.tuple #[.int .u8 0, .int .i64 3]) ∧ w = w' := by
  obtain ⟨c, hk, _⟩ := h.k
  have hc5 : w.cell? ⟨r, 5, none⟩ = some (.slice a 0 c) := hk.cell rfl
  clear h hk
  go_enter Tryz.func22, Tryz.ntmps22
  go_wp2_with fail
  go_ret2
  exact ⟨rfl, rfl⟩
/-- What a step leaves: the run without it, the device turned by it. -/
def StepG (w : World) (r d b N : Nat) (g : G) (area : Int) (a : Option Addr) (s : St) (L : List St) (f : Nat → Wd) (e : Ending) (w' : World) : Prop :=
  e = .returned (.tuple #[.int .u8 s.p, .int .i64 0]) ∧ ∃ a', RunAt w' r d g area L a' ∧ DevAt w' d b N (doOp s.o f) ∧ UpO (fun k => k = b ∨ k = r) w w' ∧ ∀ k, QB a' k → QB a k
/-- The run behind a step: its slice's head turned, a copy of the step new, the device turned. -/
theorem step_run {w w1 w2 w3 : World} {r d b N : Nat} {g : G} {area : Int} {qb qo c : Nat} {s : St} {L : List St} {v : Value} {vs : List Value} {F : Nat → Wd} {a' : Option Addr} {c' : Nat}
    (hD : DevAt w d b N F) (hk : Blk w r #[.pointer (some ⟨d, 0, none⟩), .int .i64 g.w, .int .i64 g.i, .int .i64 g.b, .int .i64 area, .slice (some ⟨qb, qo, none⟩) (L.length + 1) c] 104)
    (hs : StepsV w r d L vs) (hq : Qs w 145 2 (some ⟨qb, qo, none⟩) c (.int .u8 s.p :: v :: stepC L vs)) (hle : L.length + 1 ≤ c)
    (h01 : Nw w w1) (h12 : w2 = w1.setCell ⟨r, 5, none⟩ (.slice a' L.length c')) (ha : (c = 1 ∧ a' = some ⟨qb, qo, none⟩ ∧ c' = 0) ∨ (1 < c ∧ a' = some ⟨qb, qo + 2, none⟩ ∧ c' = c - 1))
    (h23 : Up b w2 w3) : RunAt w3 r d g area L a' ∧ UpO (fun k => k = b ∨ k = r) w w3 ∧ ∀ k, QB a' k → QB (some ⟨qb, qo, none⟩) k := by
  have hrT := hk.tag
  have hqT : Tag w qb 145 := hq.tag rfl
  have hbT := hD.a.ty
  have u : UpO (fun k => k = b ∨ k = r) w w3 := by
    refine UpO.trans (O' := fun k => k = b ∨ k = r) (.pre h01 (O := fun k => k = b ∨ k = r) ?_) (.of_up h23 (.inl rfl)) (fun _ hx => .inl hx)
    rw [h12]
    exact (UpO.refl _ w1).set (.inr rfl) _ _
  have hnb : NoBox w (fun k => k = b ∨ k = r) := by
    rintro k (ht | ht | ht) (e | e)
    · exact ht.ne hbT (by decide) e
    · exact ht.ne hrT (by decide) e
    · exact ht.ne hbT (by decide) e
    · exact ht.ne hrT (by decide) e
    · exact ht.ne hbT (by decide) e
    · exact ht.ne hrT (by decide) e
  have hnq : ¬ (qb = b ∨ qb = r) := by
    rintro (e | e)
    · exact hqT.ne hbT (by decide) e
    · exact hqT.ne hrT (by decide) e
  have hk3 : Blk w3 r #[.pointer (some ⟨d, 0, none⟩), .int .i64 g.w, .int .i64 g.i, .int .i64 g.b, .int .i64 area, .slice a' L.length c'] 104 := by
    have h2 := (hk.nw h01).set 5 (.slice a' L.length c')
    rw [← h12] at h2
    exact h2.up h23 (hrT.ne hbT (by decide))
  rcases ha with ⟨rfl, rfl, rfl⟩ | ⟨hc1, rfl, rfl⟩
  · have hL : L = [] := List.length_eq_zero_iff.1 (by omega)
    subst hL
    have hvs : vs = [] := List.length_eq_zero_iff.1 hs.1
    subst hvs
    exact ⟨⟨0, hk3, [], StepsV.nil _ _ _, hq.empty.upo u (fun p hp => by cases hp; exact hnq)⟩, u, fun k hk => hk⟩
  · have hq' := hq.tail hc1
    exact ⟨⟨c - 1, hk3, vs, hs.upo u hnb, hq'.upo u (fun p hp => by cases hp; exact hnq)⟩, u, fun k hk => by obtain ⟨p, hp, e⟩ := hk; cases hp; exact ⟨_, rfl, e⟩⟩

set_option maxRecDepth 100000 in
set_option maxHeartbeats 8000000 in
theorem step_store (r d b N : Nat) (g : G) (area : Int) (L : List St) (a : Option Addr) (hL : L.length ≤ 90000) (p : Int) (x y : Int) (f : Nat → Wd) (hok : okOp N (.store x y)) (w : World) (hD : DevAt w d b N f) (h : RunAt w r d g area (⟨p, .store x y⟩ :: L) a) :
    Calls Tryz.prog 22 #[.pointer (some ⟨r, 0, none⟩)] w (StepG w r d b N g area a ⟨p, .store x y⟩ L f) := by
  obtain ⟨qb, qo, c, v, vs, rfl, hk, hle, hv, hs, hq, p1, p2⟩ := h.first
  dsimp only at hv p1
  clear h
  obtain ⟨k, rfl⟩ : ∃ k : Nat, x = k := ⟨x.toNat, by have := hok.1; omega⟩
  have hkN : k < N := by have := hok.2; omega
  have HOP : Hid (doOp (.store (k : Int) y) f = upd f k (storeW (f k) y)) := by show _ = _; simp only [doOp, Int.toNat_natCast]
  obtain ⟨br, bw, rfl, hbr, hbw⟩ := hv
  have hDk := hD.k
  have hbT := hD.a.ty
  have hrT := hk.tag
  have hqT : Tag w qb 145 := hq.tag rfl
  have HND : Hid (d ≠ r ∧ b ≠ r ∧ br ≠ r ∧ bw ≠ r) := ⟨hDk.tag.ne hrT (by decide), hbT.ne hrT (by decide), hbr.tag.ne hrT (by decide), hbw.tag.ne hrT (by decide)⟩
  have HRUN := Lib.hid (fun (w1 w2 w3 : World) (a' : Option Addr) (c' : Nat) => step_run (w1 := w1) (w2 := w2) (w3 := w3) (a' := a') (c' := c') hD hk hs hq hle)
  have hc5 : w.cell? ⟨r, 5, none⟩ = some (.slice (some ⟨qb, qo, none⟩) (L.length + 1) c) := hk.cell rfl
  have hf5 := hk.frozen 5
  have HDEV : Hid (∀ W, UpO (· = r) w W → DevAt W d b N f) := fun W u => hD.upo u HND.out.1 HND.out.2.1
  have HCALL : Hid (∀ W, UpO (· = r) w W → Tag W r 104 → W.cell? ⟨r, 0, none⟩ = some (.pointer (some ⟨d, 0, none⟩)) → Calls Tryz.prog 112 #[.pointer (some ⟨br, 0, none⟩), .pointer (some ⟨bw, 0, none⟩)] W (DevG W d b N (upd f k (storeW (f k) y)))) :=
    fun W u h3 h4 => stores1_any r d b N br bw f k hkN y W (HDEV.out W u) (u.blk hbr HND.out.2.2.1) (u.blk hbw HND.out.2.2.2) h3 h4
  have HK := Lib.hid hk
  have HBT := Lib.hid hbT
  clear hD hk hs hq hDk hbT hrT hqT hok hbr hbw
  have hll : (L.length : Int) + 1 - 1 = L.length := by omega
  generalize hn : L.length = n at *
  obtain rfl | hc1 : c = 1 ∨ 1 < c := by omega
  · obtain rfl : n = 0 := by omega
    go_enter Tryz.func22, Tryz.ntmps22
    go_upto_region 6 with fail
    have hb1 := Blk.new w #[.int .u8 p, (.func (.func 112) #[] #[.pointer (some ⟨br, 0, none⟩), .pointer (some ⟨bw, 0, none⟩)])] 145
    have hn1 := (Nw.refl (w := w)).alloc (.cells #[.int .u8 p, (.func (.func 112) #[] #[.pointer (some ⟨br, 0, none⟩), .pointer (some ⟨bw, 0, none⟩)])] 145)
    have HNE : Hid (r ≠ w.heap.size) := Nat.ne_of_lt HK.out.lt
    generalize w.alloc (.cells #[.int .u8 p, (.func (.func 112) #[] #[.pointer (some ⟨br, 0, none⟩), .pointer (some ⟨bw, 0, none⟩)])] 145) = w1 at *
    have HK1 := Lib.hid (HK.out.nw hn1)
    clear hc5 hf5 p1 p2
    generalize w.heap.size = cb at hb1 HNE ⊢
    have hc5 : w1.cell? ⟨r, 5, none⟩ = some (.slice (some ⟨qb, qo, none⟩) (0 + 1) 1) := HK1.out.cell rfl
    have hf5 := HK1.out.frozen 5
    go_upto_region 7 with fail
    have HU2 := Lib.hid (UpO.pre hn1 ((UpO.refl (· = r) w1).set (t := r) rfl 5 (.slice (some ⟨qb, qo, none⟩) 0 0)))
    have hb2 := hb1.far r 5 (.slice (some ⟨qb, qo, none⟩) 0 0) (Ne.symm HNE.out)
    have hk2 := HK1.out.set 5 (.slice (some ⟨qb, qo, none⟩) 0 0)
    have HR2 := Lib.hid (fun (w3 : World) (u : Up b _ w3) => HRUN.out w1 _ w3 (some ⟨qb, qo, none⟩) 0 hn1 rfl (.inl ⟨rfl, rfl, rfl⟩) u)
    have hcb0 : (w1.setCell ⟨r, 5, none⟩ (.slice (some ⟨qb, qo, none⟩) 0 0)).cell? ⟨cb, 0, none⟩ = some (.int .u8 p) := hb2.cell rfl
    have hcb1 : (w1.setCell ⟨r, 5, none⟩ (.slice (some ⟨qb, qo, none⟩) 0 0)).cell? ⟨cb, 1, none⟩ = some (.func (.func 112) #[] #[.pointer (some ⟨br, 0, none⟩), .pointer (some ⟨bw, 0, none⟩)]) := hb2.cell rfl
    have hcr : (w1.setCell ⟨r, 5, none⟩ (.slice (some ⟨qb, qo, none⟩) 0 0)).cell? ⟨r, 0, none⟩ = some (.pointer (some ⟨d, 0, none⟩)) := hk2.cell rfl
    have hcb : cb ≠ b := hb1.tag.ne (HBT.out.nw hn1) (by decide)
    have hrt := hk2.tag
    clear hb1 hb2 hk2 HK1 hc5 hf5
    generalize w1.setCell ⟨r, 5, none⟩ (.slice (some ⟨qb, qo, none⟩) 0 0) = w2 at *
    have HC := Lib.hid (HCALL.out w2.drew (HU2.out.nw Nw.refl.drew) (hrt.nw Nw.refl.drew) hcr)
    have HK9 : Hid (∀ W', Up b w2.drew W' → W'.cell? ⟨cb, 0, none⟩ = some (.int .u8 p) ∧ W'.cell? ⟨cb, 1, none⟩ = some (.func (.func 112) #[] #[.pointer (some ⟨br, 0, none⟩), .pointer (some ⟨bw, 0, none⟩)])) := fun W' u => ⟨u.cell hcb0 hcb, u.cell hcb1 hcb⟩
    clear hrt hcr hcb
    go_region_held3 (fun w' => w'.cell? ⟨cb, 0, none⟩ = some (.int .u8 p) ∧ w'.cell? ⟨cb, 1, none⟩ = some (.func (.func 112) #[] #[.pointer (some ⟨br, 0, none⟩), .pointer (some ⟨bw, 0, none⟩)]))
      (first | (exact ⟨hcb0, hcb1⟩) | (exact hk9))
      ((first | (go_at_call 112; refine HC.out.mono ?_; rintro e w4 ⟨rfl, h4, u4⟩; have hk9 := HK9.out _ u4)))
    go_wp2_with fail
    go_ret2
    obtain ⟨e1, e2, e3⟩ := HR2.out w4 ((Up.of_nw (t := b) Nw.refl.drew).trans u4)
    exact ⟨rfl, _, e1, by rw [HOP.out]; exact h4, e2, e3⟩
  · go_enter Tryz.func22, Tryz.ntmps22
    go_upto_region 6 with fail
    have hb1 := Blk.new w #[.int .u8 p, (.func (.func 112) #[] #[.pointer (some ⟨br, 0, none⟩), .pointer (some ⟨bw, 0, none⟩)])] 145
    have hn1 := (Nw.refl (w := w)).alloc (.cells #[.int .u8 p, (.func (.func 112) #[] #[.pointer (some ⟨br, 0, none⟩), .pointer (some ⟨bw, 0, none⟩)])] 145)
    have HNE : Hid (r ≠ w.heap.size) := Nat.ne_of_lt HK.out.lt
    generalize w.alloc (.cells #[.int .u8 p, (.func (.func 112) #[] #[.pointer (some ⟨br, 0, none⟩), .pointer (some ⟨bw, 0, none⟩)])] 145) = w1 at *
    have HK1 := Lib.hid (HK.out.nw hn1)
    clear hc5 hf5 p1 p2
    generalize w.heap.size = cb at hb1 HNE ⊢
    have hc5 : w1.cell? ⟨r, 5, none⟩ = some (.slice (some ⟨qb, qo, none⟩) (n + 1) c) := HK1.out.cell rfl
    have hf5 := HK1.out.frozen 5
    go_upto_region 7 with fail
    have HU2 := Lib.hid (UpO.pre hn1 ((UpO.refl (· = r) w1).set (t := r) rfl 5 (.slice (some ⟨qb, qo + 2, none⟩) n (c - 1))))
    have hb2 := hb1.far r 5 (.slice (some ⟨qb, qo + 2, none⟩) n (c - 1)) (Ne.symm HNE.out)
    have hk2 := HK1.out.set 5 (.slice (some ⟨qb, qo + 2, none⟩) n (c - 1))
    have HR2 := Lib.hid (fun (w3 : World) (u : Up b _ w3) => HRUN.out w1 _ w3 (some ⟨qb, qo + 2, none⟩) (c - 1) hn1 rfl (.inr ⟨hc1, rfl, rfl⟩) u)
    have hcb0 : (w1.setCell ⟨r, 5, none⟩ (.slice (some ⟨qb, qo + 2, none⟩) n (c - 1))).cell? ⟨cb, 0, none⟩ = some (.int .u8 p) := hb2.cell rfl
    have hcb1 : (w1.setCell ⟨r, 5, none⟩ (.slice (some ⟨qb, qo + 2, none⟩) n (c - 1))).cell? ⟨cb, 1, none⟩ = some (.func (.func 112) #[] #[.pointer (some ⟨br, 0, none⟩), .pointer (some ⟨bw, 0, none⟩)]) := hb2.cell rfl
    have hcr : (w1.setCell ⟨r, 5, none⟩ (.slice (some ⟨qb, qo + 2, none⟩) n (c - 1))).cell? ⟨r, 0, none⟩ = some (.pointer (some ⟨d, 0, none⟩)) := hk2.cell rfl
    have hcb : cb ≠ b := hb1.tag.ne (HBT.out.nw hn1) (by decide)
    have hrt := hk2.tag
    clear hb1 hb2 hk2 HK1 hc5 hf5
    generalize w1.setCell ⟨r, 5, none⟩ (.slice (some ⟨qb, qo + 2, none⟩) n (c - 1)) = w2 at *
    have HC := Lib.hid (HCALL.out w2.drew (HU2.out.nw Nw.refl.drew) (hrt.nw Nw.refl.drew) hcr)
    have HK9 : Hid (∀ W', Up b w2.drew W' → W'.cell? ⟨cb, 0, none⟩ = some (.int .u8 p) ∧ W'.cell? ⟨cb, 1, none⟩ = some (.func (.func 112) #[] #[.pointer (some ⟨br, 0, none⟩), .pointer (some ⟨bw, 0, none⟩)])) := fun W' u => ⟨u.cell hcb0 hcb, u.cell hcb1 hcb⟩
    clear hrt hcr hcb
    go_region_held3 (fun w' => w'.cell? ⟨cb, 0, none⟩ = some (.int .u8 p) ∧ w'.cell? ⟨cb, 1, none⟩ = some (.func (.func 112) #[] #[.pointer (some ⟨br, 0, none⟩), .pointer (some ⟨bw, 0, none⟩)]))
      (first | (exact ⟨hcb0, hcb1⟩) | (exact hk9))
      ((first | (go_at_call 112; refine HC.out.mono ?_; rintro e w4 ⟨rfl, h4, u4⟩; have hk9 := HK9.out _ u4)))
    go_wp2_with fail
    go_ret2
    obtain ⟨e1, e2, e3⟩ := HR2.out w4 ((Up.of_nw (t := b) Nw.refl.drew).trans u4)
    exact ⟨rfl, _, e1, by rw [HOP.out]; exact h4, e2, e3⟩

set_option maxRecDepth 100000 in
set_option maxHeartbeats 8000000 in
theorem step_flush (r d b N : Nat) (g : G) (area : Int) (L : List St) (a : Option Addr) (hL : L.length ≤ 90000) (p : Int) (x : Int) (f : Nat → Wd) (hok : okOp N (.flush x)) (w : World) (hD : DevAt w d b N f) (h : RunAt w r d g area (⟨p, .flush x⟩ :: L) a) :
    Calls Tryz.prog 22 #[.pointer (some ⟨r, 0, none⟩)] w (StepG w r d b N g area a ⟨p, .flush x⟩ L f) := by
  obtain ⟨qb, qo, c, v, vs, rfl, hk, hle, hv, hs, hq, p1, p2⟩ := h.first
  dsimp only at hv p1
  clear h
  obtain ⟨k, rfl⟩ : ∃ k : Nat, x = k := ⟨x.toNat, by have := hok.1; omega⟩
  have hkN : k * 8 < N := by have := hok.2; omega
  have HOP : Hid (doOp (.flush (k : Int)) f = flushU k f) := by show _ = _; simp only [doOp, Int.toNat_natCast]
  obtain ⟨br, bw, rfl, hbr, hbw⟩ := hv
  have hDk := hD.k
  have hbT := hD.a.ty
  have hrT := hk.tag
  have hqT : Tag w qb 145 := hq.tag rfl
  have HND : Hid (d ≠ r ∧ b ≠ r ∧ br ≠ r ∧ bw ≠ r) := ⟨hDk.tag.ne hrT (by decide), hbT.ne hrT (by decide), hbr.tag.ne hrT (by decide), hbw.tag.ne hrT (by decide)⟩
  have HRUN := Lib.hid (fun (w1 w2 w3 : World) (a' : Option Addr) (c' : Nat) => step_run (w1 := w1) (w2 := w2) (w3 := w3) (a' := a') (c' := c') hD hk hs hq hle)
  have hc5 : w.cell? ⟨r, 5, none⟩ = some (.slice (some ⟨qb, qo, none⟩) (L.length + 1) c) := hk.cell rfl
  have hf5 := hk.frozen 5
  have HDEV : Hid (∀ W, UpO (· = r) w W → DevAt W d b N f) := fun W u => hD.upo u HND.out.1 HND.out.2.1
  have HCALL : Hid (∀ W, UpO (· = r) w W → Tag W r 104 → W.cell? ⟨r, 0, none⟩ = some (.pointer (some ⟨d, 0, none⟩)) → Calls Tryz.prog 115 #[.pointer (some ⟨br, 0, none⟩), .pointer (some ⟨bw, 0, none⟩)] W (DevG W d b N (flushU k f))) :=
    fun W u h3 h4 => settles1_any r d b N br bw f k hkN W (HDEV.out W u) (u.blk hbr HND.out.2.2.1) (u.blk hbw HND.out.2.2.2) h3 h4
  have HK := Lib.hid hk
  have HBT := Lib.hid hbT
  clear hD hk hs hq hDk hbT hrT hqT hok hbr hbw
  have hll : (L.length : Int) + 1 - 1 = L.length := by omega
  generalize hn : L.length = n at *
  obtain rfl | hc1 : c = 1 ∨ 1 < c := by omega
  · obtain rfl : n = 0 := by omega
    go_enter Tryz.func22, Tryz.ntmps22
    go_upto_region 6 with fail
    have hb1 := Blk.new w #[.int .u8 p, (.func (.func 115) #[] #[.pointer (some ⟨br, 0, none⟩), .pointer (some ⟨bw, 0, none⟩)])] 145
    have hn1 := (Nw.refl (w := w)).alloc (.cells #[.int .u8 p, (.func (.func 115) #[] #[.pointer (some ⟨br, 0, none⟩), .pointer (some ⟨bw, 0, none⟩)])] 145)
    have HNE : Hid (r ≠ w.heap.size) := Nat.ne_of_lt HK.out.lt
    generalize w.alloc (.cells #[.int .u8 p, (.func (.func 115) #[] #[.pointer (some ⟨br, 0, none⟩), .pointer (some ⟨bw, 0, none⟩)])] 145) = w1 at *
    have HK1 := Lib.hid (HK.out.nw hn1)
    clear hc5 hf5 p1 p2
    generalize w.heap.size = cb at hb1 HNE ⊢
    have hc5 : w1.cell? ⟨r, 5, none⟩ = some (.slice (some ⟨qb, qo, none⟩) (0 + 1) 1) := HK1.out.cell rfl
    have hf5 := HK1.out.frozen 5
    go_upto_region 7 with fail
    have HU2 := Lib.hid (UpO.pre hn1 ((UpO.refl (· = r) w1).set (t := r) rfl 5 (.slice (some ⟨qb, qo, none⟩) 0 0)))
    have hb2 := hb1.far r 5 (.slice (some ⟨qb, qo, none⟩) 0 0) (Ne.symm HNE.out)
    have hk2 := HK1.out.set 5 (.slice (some ⟨qb, qo, none⟩) 0 0)
    have HR2 := Lib.hid (fun (w3 : World) (u : Up b _ w3) => HRUN.out w1 _ w3 (some ⟨qb, qo, none⟩) 0 hn1 rfl (.inl ⟨rfl, rfl, rfl⟩) u)
    have hcb0 : (w1.setCell ⟨r, 5, none⟩ (.slice (some ⟨qb, qo, none⟩) 0 0)).cell? ⟨cb, 0, none⟩ = some (.int .u8 p) := hb2.cell rfl
    have hcb1 : (w1.setCell ⟨r, 5, none⟩ (.slice (some ⟨qb, qo, none⟩) 0 0)).cell? ⟨cb, 1, none⟩ = some (.func (.func 115) #[] #[.pointer (some ⟨br, 0, none⟩), .pointer (some ⟨bw, 0, none⟩)]) := hb2.cell rfl
    have hcr : (w1.setCell ⟨r, 5, none⟩ (.slice (some ⟨qb, qo, none⟩) 0 0)).cell? ⟨r, 0, none⟩ = some (.pointer (some ⟨d, 0, none⟩)) := hk2.cell rfl
    have hcb : cb ≠ b := hb1.tag.ne (HBT.out.nw hn1) (by decide)
    have hrt := hk2.tag
    clear hb1 hb2 hk2 HK1 hc5 hf5
    generalize w1.setCell ⟨r, 5, none⟩ (.slice (some ⟨qb, qo, none⟩) 0 0) = w2 at *
    have HC := Lib.hid (HCALL.out w2.drew (HU2.out.nw Nw.refl.drew) (hrt.nw Nw.refl.drew) hcr)
    have HK9 : Hid (∀ W', Up b w2.drew W' → W'.cell? ⟨cb, 0, none⟩ = some (.int .u8 p) ∧ W'.cell? ⟨cb, 1, none⟩ = some (.func (.func 115) #[] #[.pointer (some ⟨br, 0, none⟩), .pointer (some ⟨bw, 0, none⟩)])) := fun W' u => ⟨u.cell hcb0 hcb, u.cell hcb1 hcb⟩
    clear hrt hcr hcb
    go_region_held3 (fun w' => w'.cell? ⟨cb, 0, none⟩ = some (.int .u8 p) ∧ w'.cell? ⟨cb, 1, none⟩ = some (.func (.func 115) #[] #[.pointer (some ⟨br, 0, none⟩), .pointer (some ⟨bw, 0, none⟩)]))
      (first | (exact ⟨hcb0, hcb1⟩) | (exact hk9))
      ((first | (go_at_call 115; refine HC.out.mono ?_; rintro e w4 ⟨rfl, h4, u4⟩; have hk9 := HK9.out _ u4)))
    go_wp2_with fail
    go_ret2
    obtain ⟨e1, e2, e3⟩ := HR2.out w4 ((Up.of_nw (t := b) Nw.refl.drew).trans u4)
    exact ⟨rfl, _, e1, by rw [HOP.out]; exact h4, e2, e3⟩
  · go_enter Tryz.func22, Tryz.ntmps22
    go_upto_region 6 with fail
    have hb1 := Blk.new w #[.int .u8 p, (.func (.func 115) #[] #[.pointer (some ⟨br, 0, none⟩), .pointer (some ⟨bw, 0, none⟩)])] 145
    have hn1 := (Nw.refl (w := w)).alloc (.cells #[.int .u8 p, (.func (.func 115) #[] #[.pointer (some ⟨br, 0, none⟩), .pointer (some ⟨bw, 0, none⟩)])] 145)
    have HNE : Hid (r ≠ w.heap.size) := Nat.ne_of_lt HK.out.lt
    generalize w.alloc (.cells #[.int .u8 p, (.func (.func 115) #[] #[.pointer (some ⟨br, 0, none⟩), .pointer (some ⟨bw, 0, none⟩)])] 145) = w1 at *
    have HK1 := Lib.hid (HK.out.nw hn1)
    clear hc5 hf5 p1 p2
    generalize w.heap.size = cb at hb1 HNE ⊢
    have hc5 : w1.cell? ⟨r, 5, none⟩ = some (.slice (some ⟨qb, qo, none⟩) (n + 1) c) := HK1.out.cell rfl
    have hf5 := HK1.out.frozen 5
    go_upto_region 7 with fail
    have HU2 := Lib.hid (UpO.pre hn1 ((UpO.refl (· = r) w1).set (t := r) rfl 5 (.slice (some ⟨qb, qo + 2, none⟩) n (c - 1))))
    have hb2 := hb1.far r 5 (.slice (some ⟨qb, qo + 2, none⟩) n (c - 1)) (Ne.symm HNE.out)
    have hk2 := HK1.out.set 5 (.slice (some ⟨qb, qo + 2, none⟩) n (c - 1))
    have HR2 := Lib.hid (fun (w3 : World) (u : Up b _ w3) => HRUN.out w1 _ w3 (some ⟨qb, qo + 2, none⟩) (c - 1) hn1 rfl (.inr ⟨hc1, rfl, rfl⟩) u)
    have hcb0 : (w1.setCell ⟨r, 5, none⟩ (.slice (some ⟨qb, qo + 2, none⟩) n (c - 1))).cell? ⟨cb, 0, none⟩ = some (.int .u8 p) := hb2.cell rfl
    have hcb1 : (w1.setCell ⟨r, 5, none⟩ (.slice (some ⟨qb, qo + 2, none⟩) n (c - 1))).cell? ⟨cb, 1, none⟩ = some (.func (.func 115) #[] #[.pointer (some ⟨br, 0, none⟩), .pointer (some ⟨bw, 0, none⟩)]) := hb2.cell rfl
    have hcr : (w1.setCell ⟨r, 5, none⟩ (.slice (some ⟨qb, qo + 2, none⟩) n (c - 1))).cell? ⟨r, 0, none⟩ = some (.pointer (some ⟨d, 0, none⟩)) := hk2.cell rfl
    have hcb : cb ≠ b := hb1.tag.ne (HBT.out.nw hn1) (by decide)
    have hrt := hk2.tag
    clear hb1 hb2 hk2 HK1 hc5 hf5
    generalize w1.setCell ⟨r, 5, none⟩ (.slice (some ⟨qb, qo + 2, none⟩) n (c - 1)) = w2 at *
    have HC := Lib.hid (HCALL.out w2.drew (HU2.out.nw Nw.refl.drew) (hrt.nw Nw.refl.drew) hcr)
    have HK9 : Hid (∀ W', Up b w2.drew W' → W'.cell? ⟨cb, 0, none⟩ = some (.int .u8 p) ∧ W'.cell? ⟨cb, 1, none⟩ = some (.func (.func 115) #[] #[.pointer (some ⟨br, 0, none⟩), .pointer (some ⟨bw, 0, none⟩)])) := fun W' u => ⟨u.cell hcb0 hcb, u.cell hcb1 hcb⟩
    clear hrt hcr hcb
    go_region_held3 (fun w' => w'.cell? ⟨cb, 0, none⟩ = some (.int .u8 p) ∧ w'.cell? ⟨cb, 1, none⟩ = some (.func (.func 115) #[] #[.pointer (some ⟨br, 0, none⟩), .pointer (some ⟨bw, 0, none⟩)]))
      (first | (exact ⟨hcb0, hcb1⟩) | (exact hk9))
      ((first | (go_at_call 115; refine HC.out.mono ?_; rintro e w4 ⟨rfl, h4, u4⟩; have hk9 := HK9.out _ u4)))
    go_wp2_with fail
    go_ret2
    obtain ⟨e1, e2, e3⟩ := HR2.out w4 ((Up.of_nw (t := b) Nw.refl.drew).trans u4)
    exact ⟨rfl, _, e1, by rw [HOP.out]; exact h4, e2, e3⟩

set_option maxRecDepth 100000 in
set_option maxHeartbeats 8000000 in
theorem step_fence (r d b N : Nat) (g : G) (area : Int) (L : List St) (a : Option Addr) (hL : L.length ≤ 90000) (p : Int)  (f : Nat → Wd) (hok : okOp N (.fence)) (w : World) (hD : DevAt w d b N f) (h : RunAt w r d g area (⟨p, .fence⟩ :: L) a) :
    Calls Tryz.prog 22 #[.pointer (some ⟨r, 0, none⟩)] w (StepG w r d b N g area a ⟨p, .fence⟩ L f) := by
  obtain ⟨qb, qo, c, v, vs, rfl, hk, hle, hv, hs, hq, p1, p2⟩ := h.first
  dsimp only at hv p1
  clear h
  have HOP : Hid (doOp .fence f = fenceU f) := rfl
  unfold StepV at hv
  subst hv
  have hDk := hD.k
  have hbT := hD.a.ty
  have hrT := hk.tag
  have hqT : Tag w qb 145 := hq.tag rfl
  have HND : Hid (d ≠ r ∧ b ≠ r) := ⟨hDk.tag.ne hrT (by decide), hbT.ne hrT (by decide)⟩
  have HRUN := Lib.hid (fun (w1 w2 w3 : World) (a' : Option Addr) (c' : Nat) => step_run (w1 := w1) (w2 := w2) (w3 := w3) (a' := a') (c' := c') hD hk hs hq hle)
  have hc5 : w.cell? ⟨r, 5, none⟩ = some (.slice (some ⟨qb, qo, none⟩) (L.length + 1) c) := hk.cell rfl
  have hf5 := hk.frozen 5
  have HDEV : Hid (∀ W, UpO (· = r) w W → DevAt W d b N f) := fun W u => hD.upo u HND.out.1 HND.out.2
  have HCALL : Hid (∀ W, UpO (· = r) w W → Tag W r 104 → W.cell? ⟨r, 0, none⟩ = some (.pointer (some ⟨d, 0, none⟩)) → Calls Tryz.prog 117 #[.pointer (some ⟨d, 0, none⟩)] W (DevG W d b N (fenceU f))) :=
    fun W u h3 h4 => fenced_any d b N f W (HDEV.out W u)
  have HK := Lib.hid hk
  have HBT := Lib.hid hbT
  clear hD hk hs hq hDk hbT hrT hqT hok
  have hll : (L.length : Int) + 1 - 1 = L.length := by omega
  generalize hn : L.length = n at *
  obtain rfl | hc1 : c = 1 ∨ 1 < c := by omega
  · obtain rfl : n = 0 := by omega
    go_enter Tryz.func22, Tryz.ntmps22
    go_upto_region 6 with fail
    have hb1 := Blk.new w #[.int .u8 p, (.func (.func 117) #[.pointer (some ⟨d, 0, none⟩)] #[])] 145
    have hn1 := (Nw.refl (w := w)).alloc (.cells #[.int .u8 p, (.func (.func 117) #[.pointer (some ⟨d, 0, none⟩)] #[])] 145)
    have HNE : Hid (r ≠ w.heap.size) := Nat.ne_of_lt HK.out.lt
    generalize w.alloc (.cells #[.int .u8 p, (.func (.func 117) #[.pointer (some ⟨d, 0, none⟩)] #[])] 145) = w1 at *
    have HK1 := Lib.hid (HK.out.nw hn1)
    clear hc5 hf5 p1 p2
    generalize w.heap.size = cb at hb1 HNE ⊢
    have hc5 : w1.cell? ⟨r, 5, none⟩ = some (.slice (some ⟨qb, qo, none⟩) (0 + 1) 1) := HK1.out.cell rfl
    have hf5 := HK1.out.frozen 5
    go_upto_region 7 with fail
    have HU2 := Lib.hid (UpO.pre hn1 ((UpO.refl (· = r) w1).set (t := r) rfl 5 (.slice (some ⟨qb, qo, none⟩) 0 0)))
    have hb2 := hb1.far r 5 (.slice (some ⟨qb, qo, none⟩) 0 0) (Ne.symm HNE.out)
    have hk2 := HK1.out.set 5 (.slice (some ⟨qb, qo, none⟩) 0 0)
    have HR2 := Lib.hid (fun (w3 : World) (u : Up b _ w3) => HRUN.out w1 _ w3 (some ⟨qb, qo, none⟩) 0 hn1 rfl (.inl ⟨rfl, rfl, rfl⟩) u)
    have hcb0 : (w1.setCell ⟨r, 5, none⟩ (.slice (some ⟨qb, qo, none⟩) 0 0)).cell? ⟨cb, 0, none⟩ = some (.int .u8 p) := hb2.cell rfl
    have hcb1 : (w1.setCell ⟨r, 5, none⟩ (.slice (some ⟨qb, qo, none⟩) 0 0)).cell? ⟨cb, 1, none⟩ = some (.func (.func 117) #[.pointer (some ⟨d, 0, none⟩)] #[]) := hb2.cell rfl
    have hcr : (w1.setCell ⟨r, 5, none⟩ (.slice (some ⟨qb, qo, none⟩) 0 0)).cell? ⟨r, 0, none⟩ = some (.pointer (some ⟨d, 0, none⟩)) := hk2.cell rfl
    have hcb : cb ≠ b := hb1.tag.ne (HBT.out.nw hn1) (by decide)
    have hrt := hk2.tag
    clear hb1 hb2 hk2 HK1 hc5 hf5
    generalize w1.setCell ⟨r, 5, none⟩ (.slice (some ⟨qb, qo, none⟩) 0 0) = w2 at *
    have HC := Lib.hid (HCALL.out w2.drew (HU2.out.nw Nw.refl.drew) (hrt.nw Nw.refl.drew) hcr)
    have HK9 : Hid (∀ W', Up b w2.drew W' → W'.cell? ⟨cb, 0, none⟩ = some (.int .u8 p) ∧ W'.cell? ⟨cb, 1, none⟩ = some (.func (.func 117) #[.pointer (some ⟨d, 0, none⟩)] #[])) := fun W' u => ⟨u.cell hcb0 hcb, u.cell hcb1 hcb⟩
    clear hrt hcr hcb
    go_region_held3 (fun w' => w'.cell? ⟨cb, 0, none⟩ = some (.int .u8 p) ∧ w'.cell? ⟨cb, 1, none⟩ = some (.func (.func 117) #[.pointer (some ⟨d, 0, none⟩)] #[]))
      (first | (exact ⟨hcb0, hcb1⟩) | (exact hk9))
      ((first | (go_at_call 117; refine HC.out.mono ?_; rintro e w4 ⟨rfl, h4, u4⟩; have hk9 := HK9.out _ u4)))
    go_wp2_with fail
    go_ret2
    obtain ⟨e1, e2, e3⟩ := HR2.out w4 ((Up.of_nw (t := b) Nw.refl.drew).trans u4)
    exact ⟨rfl, _, e1, by rw [HOP.out]; exact h4, e2, e3⟩
  · go_enter Tryz.func22, Tryz.ntmps22
    go_upto_region 6 with fail
    have hb1 := Blk.new w #[.int .u8 p, (.func (.func 117) #[.pointer (some ⟨d, 0, none⟩)] #[])] 145
    have hn1 := (Nw.refl (w := w)).alloc (.cells #[.int .u8 p, (.func (.func 117) #[.pointer (some ⟨d, 0, none⟩)] #[])] 145)
    have HNE : Hid (r ≠ w.heap.size) := Nat.ne_of_lt HK.out.lt
    generalize w.alloc (.cells #[.int .u8 p, (.func (.func 117) #[.pointer (some ⟨d, 0, none⟩)] #[])] 145) = w1 at *
    have HK1 := Lib.hid (HK.out.nw hn1)
    clear hc5 hf5 p1 p2
    generalize w.heap.size = cb at hb1 HNE ⊢
    have hc5 : w1.cell? ⟨r, 5, none⟩ = some (.slice (some ⟨qb, qo, none⟩) (n + 1) c) := HK1.out.cell rfl
    have hf5 := HK1.out.frozen 5
    go_upto_region 7 with fail
    have HU2 := Lib.hid (UpO.pre hn1 ((UpO.refl (· = r) w1).set (t := r) rfl 5 (.slice (some ⟨qb, qo + 2, none⟩) n (c - 1))))
    have hb2 := hb1.far r 5 (.slice (some ⟨qb, qo + 2, none⟩) n (c - 1)) (Ne.symm HNE.out)
    have hk2 := HK1.out.set 5 (.slice (some ⟨qb, qo + 2, none⟩) n (c - 1))
    have HR2 := Lib.hid (fun (w3 : World) (u : Up b _ w3) => HRUN.out w1 _ w3 (some ⟨qb, qo + 2, none⟩) (c - 1) hn1 rfl (.inr ⟨hc1, rfl, rfl⟩) u)
    have hcb0 : (w1.setCell ⟨r, 5, none⟩ (.slice (some ⟨qb, qo + 2, none⟩) n (c - 1))).cell? ⟨cb, 0, none⟩ = some (.int .u8 p) := hb2.cell rfl
    have hcb1 : (w1.setCell ⟨r, 5, none⟩ (.slice (some ⟨qb, qo + 2, none⟩) n (c - 1))).cell? ⟨cb, 1, none⟩ = some (.func (.func 117) #[.pointer (some ⟨d, 0, none⟩)] #[]) := hb2.cell rfl
    have hcr : (w1.setCell ⟨r, 5, none⟩ (.slice (some ⟨qb, qo + 2, none⟩) n (c - 1))).cell? ⟨r, 0, none⟩ = some (.pointer (some ⟨d, 0, none⟩)) := hk2.cell rfl
    have hcb : cb ≠ b := hb1.tag.ne (HBT.out.nw hn1) (by decide)
    have hrt := hk2.tag
    clear hb1 hb2 hk2 HK1 hc5 hf5
    generalize w1.setCell ⟨r, 5, none⟩ (.slice (some ⟨qb, qo + 2, none⟩) n (c - 1)) = w2 at *
    have HC := Lib.hid (HCALL.out w2.drew (HU2.out.nw Nw.refl.drew) (hrt.nw Nw.refl.drew) hcr)
    have HK9 : Hid (∀ W', Up b w2.drew W' → W'.cell? ⟨cb, 0, none⟩ = some (.int .u8 p) ∧ W'.cell? ⟨cb, 1, none⟩ = some (.func (.func 117) #[.pointer (some ⟨d, 0, none⟩)] #[])) := fun W' u => ⟨u.cell hcb0 hcb, u.cell hcb1 hcb⟩
    clear hrt hcr hcb
    go_region_held3 (fun w' => w'.cell? ⟨cb, 0, none⟩ = some (.int .u8 p) ∧ w'.cell? ⟨cb, 1, none⟩ = some (.func (.func 117) #[.pointer (some ⟨d, 0, none⟩)] #[]))
      (first | (exact ⟨hcb0, hcb1⟩) | (exact hk9))
      ((first | (go_at_call 117; refine HC.out.mono ?_; rintro e w4 ⟨rfl, h4, u4⟩; have hk9 := HK9.out _ u4)))
    go_wp2_with fail
    go_ret2
    obtain ⟨e1, e2, e3⟩ := HR2.out w4 ((Up.of_nw (t := b) Nw.refl.drew).trans u4)
    exact ⟨rfl, _, e1, by rw [HOP.out]; exact h4, e2, e3⟩

/-- A step, whatever it does. -/
theorem step_any (r d b N : Nat) (g : G) (area : Int) (s : St) (L : List St) (a : Option Addr) (hL : L.length ≤ 90000) (f : Nat → Wd) (hok : okOp N s.o) (w : World) (hD : DevAt w d b N f) (h : RunAt w r d g area (s :: L) a) :
    Calls Tryz.prog 22 #[.pointer (some ⟨r, 0, none⟩)] w (StepG w r d b N g area a s L f) := by
  obtain ⟨p, o⟩ := s
  cases o with
  | store x y => exact step_store r d b N g area L a hL p x y f hok w hD h
  | flush x => exact step_flush r d b N g area L a hL p x f hok w hD h
  | fence => exact step_fence r d b N g area L a hL p f hok w hD h

end Go.Proofs.YtkopfnldgnkkoaaGreat

/-
  RUNS: New.
-/
namespace Go.Proofs.YtkopfnldgnkkoaaGreat
open Go.RowKit Go.Shelf
set_option linter.unusedVariables false

theorem At.nw {w0 w : World} (h : At w0 w) : Nw w0 w := ⟨h.b⟩
theorem Nw.at' {w0 w : World} (h : Nw w0 w) : At w0 w := ⟨h.b⟩
set_option maxRecDepth 100000 in
set_option maxHeartbeats 2000000 in
theorem new_nil (g : G) (i : Int) (w : World) :
    Calls Tryz.prog 43 #[.pointer none, gV g, .int .i64 i] w fun e w' => e = .returned (.tuple #[.pointer none, .int .i64 2]) ∧ Nw w w' := by
  have hn0 := (Nw.refl (w := w)).alloc (.cells #[.int .i64 g.w, .int .i64 g.i, .int .i64 g.b] 26)
  have hb := Blk.new w #[.int .i64 g.w, .int .i64 g.i, .int .i64 g.b] 26
  unfold gV
  go_enter Tryz.func43, Tryz.ntmps43
  go_upto_region 1 with fail
  generalize w.alloc (.cells #[.int .i64 g.w, .int .i64 g.i, .int .i64 g.b] 26) = w1 at *
  generalize w.heap.size = bx at hb ⊢
  have c0 : w1.cell? ⟨bx, 0, none⟩ = some (.int .i64 g.w) := hb.cell rfl
  have c1 : w1.cell? ⟨bx, 1, none⟩ = some (.int .i64 g.i) := hb.cell rfl
  have c2 : w1.cell? ⟨bx, 2, none⟩ = some (.int .i64 g.b) := hb.cell rfl
  have HA := Lib.hid (area_at g i (At.refl (w := w1)))
  unfold gV at HA
  have HN := Lib.hid hn0
  clear hb hn0
  go_wp2_with fail
  refine HA.out.mono ?_
  rintro e w2 ⟨rfl, h2⟩
  have HN2 := Lib.hid (HN.out.trans h2.nw)
  clear h2
  go_wp2_with fail
  go_ret2
  exact ⟨rfl, HN2.out⟩
/-- What New of a run tells. -/
def NewRun (w : World) (d : Nat) (g : G) (area : Int) (e : Ending) (w' : World) : Prop :=
  ∃ r, e = .returned (.tuple #[.pointer (some ⟨r, 0, none⟩), .int .i64 0]) ∧ RunAt w' r d g area [] none ∧ Nw w w' ∧ w.heap.size ≤ r
set_option maxRecDepth 100000 in
set_option maxHeartbeats 4000000 in
theorem new_yes (g : G) (i : Int) (hm : mayP g) (h0 : 0 ≤ i) (h1 : i < g.w) (d b N : Nat) (f : Nat → Wd) (hN : wordsV g ≤ N) (w : World) (h : DevAt w d b N f) :
    Calls Tryz.prog 43 #[.pointer (some ⟨d, 0, none⟩), gV g, .int .i64 i] w (NewRun w d g (264 + 208 * i)) := by
  have hn0 := (Nw.refl (w := w)).alloc (.cells #[.int .i64 g.w, .int .i64 g.i, .int .i64 g.b] 26)
  have hb := Blk.new w #[.int .i64 g.w, .int .i64 g.i, .int .i64 g.b] 26
  have hpl : placeV g 2 i = 264 + 208 * i := by
    have : placeV g 2 i = atN g 2 + sizeN 2 * i := if_pos ⟨hm, h0, by simp only [manyN]; omega⟩
    rw [this]; simp only [atN, sizeN]
  have HD := Lib.hid h
  have hle := h.le
  have hw0 : 0 ≤ wordsV g := by unfold wordsV; rw [if_pos hm]; exact (at_bd hm 7).1
  unfold gV
  clear h
  go_enter Tryz.func43, Tryz.ntmps43
  go_upto_region 1 with fail
  generalize w.alloc (.cells #[.int .i64 g.w, .int .i64 g.i, .int .i64 g.b] 26) = w1 at *
  generalize hbx : w.heap.size = bx at hb ⊢
  have HBX := Lib.hid hbx
  clear hbx
  have c0 : w1.cell? ⟨bx, 0, none⟩ = some (.int .i64 g.w) := hb.cell rfl
  have c1 : w1.cell? ⟨bx, 1, none⟩ = some (.int .i64 g.i) := hb.cell rfl
  have c2 : w1.cell? ⟨bx, 2, none⟩ = some (.int .i64 g.b) := hb.cell rfl
  have HA := Lib.hid (area_at g i (At.refl (w := w1)))
  rw [hpl] at HA
  unfold gV at HA
  have HN := Lib.hid hn0
  have HB := Lib.hid hb
  clear hb hn0 hpl
  go_wp2_with fail
  refine HA.out.mono ?_
  rintro e w2 ⟨rfl, h2⟩
  have HB2 := Lib.hid (HB.out.nw h2.nw)
  have HN2 := Lib.hid (HN.out.trans h2.nw)
  have HWD := Lib.hid (fun W (k : Nw w2 W) => dwords_any d b N f W ((HD.out.nw HN2.out).nw k))
  have HLW := Lib.hid (fun W (k : Nw w2 W) => lwords_any g (w0 := W) (w := W) At.refl)
  unfold gV at HLW
  obtain ⟨V, hV⟩ : ∃ V, wordsV g = V := ⟨_, rfl⟩
  rw [hV] at HLW hN hw0
  clear hV h2 c0 c1 c2
  have c0 : w2.cell? ⟨bx, 0, none⟩ = some (.int .i64 g.w) := HB2.out.cell rfl
  have c1 : w2.cell? ⟨bx, 1, none⟩ = some (.int .i64 g.i) := HB2.out.cell rfl
  have c2 : w2.cell? ⟨bx, 2, none⟩ = some (.int .i64 g.b) := HB2.out.cell rfl
  have HK9 : Hid (∀ W, Nw w2 W → W.cell? ⟨bx, 0, none⟩ = some (.int .i64 g.w) ∧ W.cell? ⟨bx, 1, none⟩ = some (.int .i64 g.i) ∧ W.cell? ⟨bx, 2, none⟩ = some (.int .i64 g.b) ∧ Nw w2 W) :=
    fun W k => ⟨(HB2.out.nw k).cell rfl, (HB2.out.nw k).cell rfl, (HB2.out.nw k).cell rfl, k⟩
  go_wp2_with fail
  go_region_held3 (fun w' => w'.cell? ⟨bx, 0, none⟩ = some (.int .i64 g.w) ∧ w'.cell? ⟨bx, 1, none⟩ = some (.int .i64 g.i) ∧ w'.cell? ⟨bx, 2, none⟩ = some (.int .i64 g.b) ∧ Nw w2 w')
    (first | (exact ⟨c0, c1, c2, Nw.refl.drew⟩) | (exact HK9.out _ hk9))
    ((first
      | (go_at_call 88; refine (HWD.out _ Nw.refl.drew).mono ?_; rintro e w3 ⟨rfl, rfl⟩)
      | (go_at_call 35; refine (HLW.out _ Nw.refl.drew).mono ?_; rintro e w4 ⟨rfl, h4⟩; have hk9 := Nw.refl.drew.trans h4.nw)))
  have HN4 := Lib.hid (HN2.out.trans hk9)
  clear c0 c1 c2
  obtain ⟨c0, c1, c2, _⟩ := HK9.out _ hk9
  clear hk9 h4
  go_wp2_with fail
  go_ret2
  refine ⟨w4.heap.size, rfl, ⟨0, Blk.new _ _ _, [], StepsV.nil _ _ _, Qs.nil _ _ _⟩, HN4.out.alloc _, HN4.out.b.size⟩

end Go.Proofs.YtkopfnldgnkkoaaGreat
