/-
  RUNS: Step.
-/
import Derived.Test.YtkopfnldgnkkoaaCmG
namespace Go.Proofs.Ytkopfnldgnkkoaa
open Go.RowKit Go.Shelf
set_option linter.unusedVariables false

set_option maxRecDepth 100000 in
set_option maxHeartbeats 1000000 in
theorem step_nil (w : World) : Calls Try.prog 15 #[.pointer none] w fun e w' => e = .returned (.tuple #[.int .u8 0, .int .i64 2]) ∧ w = w' := by
  go_enter Try.func15, Try.ntmps15
  go_wp2_with fail
  go_ret2
  exact ⟨rfl, rfl⟩
set_option maxRecDepth 100000 in
set_option maxHeartbeats 1000000 in
theorem step_none (r d : Nat) (g : G) (area : Int) (a : Option Addr) (w : World) (h : RunAt w r d g area [] a) :
    Calls Try.prog 15 #[.pointer (some ⟨r, 0, none⟩)] w fun e w' => e = .returned (.tuple #[.int .u8 0, .int .i64 3]) ∧ w = w' := by
  obtain ⟨c, hk, _⟩ := h.k
  have hc5 : w.cell? ⟨r, 5, none⟩ = some (.slice a 0 c) := hk.cell rfl
  clear h hk
  go_enter Try.func15, Try.ntmps15
  go_wp2_with fail
  go_ret2
  exact ⟨rfl, rfl⟩
/-- What a step leaves: the run without it, the device turned by it. -/
def StepG (w : World) (r d b N : Nat) (g : G) (area : Int) (a : Option Addr) (s : St) (L : List St) (f : Nat → Wd) (e : Ending) (w' : World) : Prop :=
  e = .returned (.tuple #[.int .u8 s.p, .int .i64 0]) ∧ ∃ a', RunAt w' r d g area L a' ∧ DevAt w' d b N (doOp s.o f) ∧ UpO (fun k => k = b ∨ k = r) w w' ∧ ∀ k, QB a' k → QB a k
/-- The run behind a step: its slice's head turned, a copy of the step new, the device turned. -/
theorem step_run {w w1 w2 w3 : World} {r d b N : Nat} {g : G} {area : Int} {qb qo c : Nat} {s : St} {L : List St} {v : Value} {vs : List Value} {F : Nat → Wd} {a' : Option Addr} {c' : Nat}
    (hD : DevAt w d b N F) (hk : Blk w r #[.pointer (some ⟨d, 0, none⟩), .int .i64 g.w, .int .i64 g.i, .int .i64 g.b, .int .i64 area, .slice (some ⟨qb, qo, none⟩) (L.length + 1) c] 79)
    (hs : StepsV w r d L vs) (hq : Qs w 94 2 (some ⟨qb, qo, none⟩) c (.int .u8 s.p :: v :: stepC L vs)) (hle : L.length + 1 ≤ c)
    (h01 : Nw w w1) (h12 : w2 = w1.setCell ⟨r, 5, none⟩ (.slice a' L.length c')) (ha : (c = 1 ∧ a' = some ⟨qb, qo, none⟩ ∧ c' = 0) ∨ (1 < c ∧ a' = some ⟨qb, qo + 2, none⟩ ∧ c' = c - 1))
    (h23 : Up b w2 w3) : RunAt w3 r d g area L a' ∧ UpO (fun k => k = b ∨ k = r) w w3 ∧ ∀ k, QB a' k → QB (some ⟨qb, qo, none⟩) k := by
  have hrT := hk.tag
  have hqT : Tag w qb 94 := hq.tag rfl
  have hbT := hD.a.ty
  have u : UpO (fun k => k = b ∨ k = r) w w3 := by
    refine UpO.trans (O' := fun k => k = b ∨ k = r) (.pre h01 (O := fun k => k = b ∨ k = r) ?_) (.of_up h23 (.inl rfl)) (fun _ hx => .inl hx)
    rw [h12]
    exact (UpO.refl _ w1).set (.inr rfl) _ _
  have hnb : NoBox w (fun k => k = b ∨ k = r) := by
    rintro k (ht | ht | ht) (e | e)
    · exact ht.ne hbT (by decide) e
    · exact ht.ne hrT (by decide) e
    · exact ht.ne hbT (by decide) e
    · exact ht.ne hrT (by decide) e
    · exact ht.ne hbT (by decide) e
    · exact ht.ne hrT (by decide) e
  have hnq : ¬ (qb = b ∨ qb = r) := by
    rintro (e | e)
    · exact hqT.ne hbT (by decide) e
    · exact hqT.ne hrT (by decide) e
  have hk3 : Blk w3 r #[.pointer (some ⟨d, 0, none⟩), .int .i64 g.w, .int .i64 g.i, .int .i64 g.b, .int .i64 area, .slice a' L.length c'] 79 := by
    have h2 := (hk.nw h01).set 5 (.slice a' L.length c')
    rw [← h12] at h2
    exact h2.up h23 (hrT.ne hbT (by decide))
  rcases ha with ⟨rfl, rfl, rfl⟩ | ⟨hc1, rfl, rfl⟩
  · have hL : L = [] := List.length_eq_zero_iff.1 (by omega)
    subst hL
    have hvs : vs = [] := List.length_eq_zero_iff.1 hs.1
    subst hvs
    exact ⟨⟨0, hk3, [], StepsV.nil _ _ _, hq.empty.upo u (fun p hp => by cases hp; exact hnq)⟩, u, fun k hk => hk⟩
  · have hq' := hq.tail hc1
    exact ⟨⟨c - 1, hk3, vs, hs.upo u hnb, hq'.upo u (fun p hp => by cases hp; exact hnq)⟩, u, fun k hk => by obtain ⟨p, hp, e⟩ := hk; cases hp; exact ⟨_, rfl, e⟩⟩

set_option maxRecDepth 100000 in
set_option maxHeartbeats 8000000 in
theorem step_store (r d b N : Nat) (g : G) (area : Int) (L : List St) (a : Option Addr) (hL : L.length ≤ 90000) (p : Int) (x y : Int) (f : Nat → Wd) (hok : okOp N (.store x y)) (w : World) (hD : DevAt w d b N f) (h : RunAt w r d g area (⟨p, .store x y⟩ :: L) a) :
    Calls Try.prog 15 #[.pointer (some ⟨r, 0, none⟩)] w (StepG w r d b N g area a ⟨p, .store x y⟩ L f) := by
  obtain ⟨qb, qo, c, v, vs, rfl, hk, hle, hv, hs, hq, p1, p2⟩ := h.first
  dsimp only at hv p1
  clear h
  obtain ⟨k, rfl⟩ : ∃ k : Nat, x = k := ⟨x.toNat, by have := hok.1; omega⟩
  have hkN : k < N := by have := hok.2; omega
  have HOP : Hid (doOp (.store (k : Int) y) f = upd f k (storeW (f k) y)) := by show _ = _; simp only [doOp, Int.toNat_natCast]
  obtain ⟨br, bw, rfl, hbr, hbw⟩ := hv
  have hDk := hD.k
  have hbT := hD.a.ty
  have hrT := hk.tag
  have hqT : Tag w qb 94 := hq.tag rfl
  have HND : Hid (d ≠ r ∧ b ≠ r ∧ br ≠ r ∧ bw ≠ r) := ⟨hDk.tag.ne hrT (by decide), hbT.ne hrT (by decide), hbr.tag.ne hrT (by decide), hbw.tag.ne hrT (by decide)⟩
  have HRUN := Lib.hid (fun (w1 w2 w3 : World) (a' : Option Addr) (c' : Nat) => step_run (w1 := w1) (w2 := w2) (w3 := w3) (a' := a') (c' := c') hD hk hs hq hle)
  have hc5 : w.cell? ⟨r, 5, none⟩ = some (.slice (some ⟨qb, qo, none⟩) (L.length + 1) c) := hk.cell rfl
  have hf5 := hk.frozen 5
  have HDEV : Hid (∀ W, UpO (· = r) w W → DevAt W d b N f) := fun W u => hD.upo u HND.out.1 HND.out.2.1
  have HCALL : Hid (∀ W, UpO (· = r) w W → Tag W r 79 → W.cell? ⟨r, 0, none⟩ = some (.pointer (some ⟨d, 0, none⟩)) → Calls Try.prog 87 #[.pointer (some ⟨br, 0, none⟩), .pointer (some ⟨bw, 0, none⟩)] W (DevG W d b N (upd f k (storeW (f k) y)))) :=
    fun W u h3 h4 => stores1_any r d b N br bw f k hkN y W (HDEV.out W u) (u.blk hbr HND.out.2.2.1) (u.blk hbw HND.out.2.2.2) h3 h4
  have HK := Lib.hid hk
  have HBT := Lib.hid hbT
  clear hD hk hs hq hDk hbT hrT hqT hok hbr hbw
  have hll : (L.length : Int) + 1 - 1 = L.length := by omega
  generalize hn : L.length = n at *
  obtain rfl | hc1 : c = 1 ∨ 1 < c := by omega
  · obtain rfl : n = 0 := by omega
    go_enter Try.func15, Try.ntmps15
    go_upto_region 6 with fail
    have hb1 := Blk.new w #[.int .u8 p, (.func (.func 87) #[] #[.pointer (some ⟨br, 0, none⟩), .pointer (some ⟨bw, 0, none⟩)])] 94
    have hn1 := (Nw.refl (w := w)).alloc (.cells #[.int .u8 p, (.func (.func 87) #[] #[.pointer (some ⟨br, 0, none⟩), .pointer (some ⟨bw, 0, none⟩)])] 94)
    have HNE : Hid (r ≠ w.heap.size) := Nat.ne_of_lt HK.out.lt
    generalize w.alloc (.cells #[.int .u8 p, (.func (.func 87) #[] #[.pointer (some ⟨br, 0, none⟩), .pointer (some ⟨bw, 0, none⟩)])] 94) = w1 at *
    have HK1 := Lib.hid (HK.out.nw hn1)
    clear hc5 hf5 p1 p2
    generalize w.heap.size = cb at hb1 HNE ⊢
    have hc5 : w1.cell? ⟨r, 5, none⟩ = some (.slice (some ⟨qb, qo, none⟩) (0 + 1) 1) := HK1.out.cell rfl
    have hf5 := HK1.out.frozen 5
    go_upto_region 7 with fail
    have HU2 := Lib.hid (UpO.pre hn1 ((UpO.refl (· = r) w1).set (t := r) rfl 5 (.slice (some ⟨qb, qo, none⟩) 0 0)))
    have hb2 := hb1.far r 5 (.slice (some ⟨qb, qo, none⟩) 0 0) (Ne.symm HNE.out)
    have hk2 := HK1.out.set 5 (.slice (some ⟨qb, qo, none⟩) 0 0)
    have HR2 := Lib.hid (fun (w3 : World) (u : Up b _ w3) => HRUN.out w1 _ w3 (some ⟨qb, qo, none⟩) 0 hn1 rfl (.inl ⟨rfl, rfl, rfl⟩) u)
    have hcb0 : (w1.setCell ⟨r, 5, none⟩ (.slice (some ⟨qb, qo, none⟩) 0 0)).cell? ⟨cb, 0, none⟩ = some (.int .u8 p) := hb2.cell rfl
    have hcb1 : (w1.setCell ⟨r, 5, none⟩ (.slice (some ⟨qb, qo, none⟩) 0 0)).cell? ⟨cb, 1, none⟩ = some (.func (.func 87) #[] #[.pointer (some ⟨br, 0, none⟩), .pointer (some ⟨bw, 0, none⟩)]) := hb2.cell rfl
    have hcr : (w1.setCell ⟨r, 5, none⟩ (.slice (some ⟨qb, qo, none⟩) 0 0)).cell? ⟨r, 0, none⟩ = some (.pointer (some ⟨d, 0, none⟩)) := hk2.cell rfl
    have hcb : cb ≠ b := hb1.tag.ne (HBT.out.nw hn1) (by decide)
    have hrt := hk2.tag
    clear hb1 hb2 hk2 HK1 hc5 hf5
    generalize w1.setCell ⟨r, 5, none⟩ (.slice (some ⟨qb, qo, none⟩) 0 0) = w2 at *
    have HC := Lib.hid (HCALL.out w2.drew (HU2.out.nw Nw.refl.drew) (hrt.nw Nw.refl.drew) hcr)
    have HK9 : Hid (∀ W', Up b w2.drew W' → W'.cell? ⟨cb, 0, none⟩ = some (.int .u8 p) ∧ W'.cell? ⟨cb, 1, none⟩ = some (.func (.func 87) #[] #[.pointer (some ⟨br, 0, none⟩), .pointer (some ⟨bw, 0, none⟩)])) := fun W' u => ⟨u.cell hcb0 hcb, u.cell hcb1 hcb⟩
    clear hrt hcr hcb
    go_region_held3 (fun w' => w'.cell? ⟨cb, 0, none⟩ = some (.int .u8 p) ∧ w'.cell? ⟨cb, 1, none⟩ = some (.func (.func 87) #[] #[.pointer (some ⟨br, 0, none⟩), .pointer (some ⟨bw, 0, none⟩)]))
      (first | (exact ⟨hcb0, hcb1⟩) | (exact hk9))
      ((first | (go_at_call 87; refine HC.out.mono ?_; rintro e w4 ⟨rfl, h4, u4⟩; have hk9 := HK9.out _ u4)))
    go_wp2_with fail
    go_ret2
    obtain ⟨e1, e2, e3⟩ := HR2.out w4 ((Up.of_nw (t := b) Nw.refl.drew).trans u4)
    exact ⟨rfl, _, e1, by rw [HOP.out]; exact h4, e2, e3⟩
  · go_enter Try.func15, Try.ntmps15
    go_upto_region 6 with fail
    have hb1 := Blk.new w #[.int .u8 p, (.func (.func 87) #[] #[.pointer (some ⟨br, 0, none⟩), .pointer (some ⟨bw, 0, none⟩)])] 94
    have hn1 := (Nw.refl (w := w)).alloc (.cells #[.int .u8 p, (.func (.func 87) #[] #[.pointer (some ⟨br, 0, none⟩), .pointer (some ⟨bw, 0, none⟩)])] 94)
    have HNE : Hid (r ≠ w.heap.size) := Nat.ne_of_lt HK.out.lt
    generalize w.alloc (.cells #[.int .u8 p, (.func (.func 87) #[] #[.pointer (some ⟨br, 0, none⟩), .pointer (some ⟨bw, 0, none⟩)])] 94) = w1 at *
    have HK1 := Lib.hid (HK.out.nw hn1)
    clear hc5 hf5 p1 p2
    generalize w.heap.size = cb at hb1 HNE ⊢
    have hc5 : w1.cell? ⟨r, 5, none⟩ = some (.slice (some ⟨qb, qo, none⟩) (n + 1) c) := HK1.out.cell rfl
    have hf5 := HK1.out.frozen 5
    go_upto_region 7 with fail
    have HU2 := Lib.hid (UpO.pre hn1 ((UpO.refl (· = r) w1).set (t := r) rfl 5 (.slice (some ⟨qb, qo + 2, none⟩) n (c - 1))))
    have hb2 := hb1.far r 5 (.slice (some ⟨qb, qo + 2, none⟩) n (c - 1)) (Ne.symm HNE.out)
    have hk2 := HK1.out.set 5 (.slice (some ⟨qb, qo + 2, none⟩) n (c - 1))
    have HR2 := Lib.hid (fun (w3 : World) (u : Up b _ w3) => HRUN.out w1 _ w3 (some ⟨qb, qo + 2, none⟩) (c - 1) hn1 rfl (.inr ⟨hc1, rfl, rfl⟩) u)
    have hcb0 : (w1.setCell ⟨r, 5, none⟩ (.slice (some ⟨qb, qo + 2, none⟩) n (c - 1))).cell? ⟨cb, 0, none⟩ = some (.int .u8 p) := hb2.cell rfl
    have hcb1 : (w1.setCell ⟨r, 5, none⟩ (.slice (some ⟨qb, qo + 2, none⟩) n (c - 1))).cell? ⟨cb, 1, none⟩ = some (.func (.func 87) #[] #[.pointer (some ⟨br, 0, none⟩), .pointer (some ⟨bw, 0, none⟩)]) := hb2.cell rfl
    have hcr : (w1.setCell ⟨r, 5, none⟩ (.slice (some ⟨qb, qo + 2, none⟩) n (c - 1))).cell? ⟨r, 0, none⟩ = some (.pointer (some ⟨d, 0, none⟩)) := hk2.cell rfl
    have hcb : cb ≠ b := hb1.tag.ne (HBT.out.nw hn1) (by decide)
    have hrt := hk2.tag
    clear hb1 hb2 hk2 HK1 hc5 hf5
    generalize w1.setCell ⟨r, 5, none⟩ (.slice (some ⟨qb, qo + 2, none⟩) n (c - 1)) = w2 at *
    have HC := Lib.hid (HCALL.out w2.drew (HU2.out.nw Nw.refl.drew) (hrt.nw Nw.refl.drew) hcr)
    have HK9 : Hid (∀ W', Up b w2.drew W' → W'.cell? ⟨cb, 0, none⟩ = some (.int .u8 p) ∧ W'.cell? ⟨cb, 1, none⟩ = some (.func (.func 87) #[] #[.pointer (some ⟨br, 0, none⟩), .pointer (some ⟨bw, 0, none⟩)])) := fun W' u => ⟨u.cell hcb0 hcb, u.cell hcb1 hcb⟩
    clear hrt hcr hcb
    go_region_held3 (fun w' => w'.cell? ⟨cb, 0, none⟩ = some (.int .u8 p) ∧ w'.cell? ⟨cb, 1, none⟩ = some (.func (.func 87) #[] #[.pointer (some ⟨br, 0, none⟩), .pointer (some ⟨bw, 0, none⟩)]))
      (first | (exact ⟨hcb0, hcb1⟩) | (exact hk9))
      ((first | (go_at_call 87; refine HC.out.mono ?_; rintro e w4 ⟨rfl, h4, u4⟩; have hk9 := HK9.out _ u4)))
    go_wp2_with fail
    go_ret2
    obtain ⟨e1, e2, e3⟩ := HR2.out w4 ((Up.of_nw (t := b) Nw.refl.drew).trans u4)
    exact ⟨rfl, _, e1, by rw [HOP.out]; exact h4, e2, e3⟩

set_option maxRecDepth 100000 in
set_option maxHeartbeats 8000000 in
theorem step_flush (r d b N : Nat) (g : G) (area : Int) (L : List St) (a : Option Addr) (hL : L.length ≤ 90000) (p : Int) (x : Int) (f : Nat → Wd) (hok : okOp N (.flush x)) (w : World) (hD : DevAt w d b N f) (h : RunAt w r d g area (⟨p, .flush x⟩ :: L) a) :
    Calls Try.prog 15 #[.pointer (some ⟨r, 0, none⟩)] w (StepG w r d b N g area a ⟨p, .flush x⟩ L f) := by
  obtain ⟨qb, qo, c, v, vs, rfl, hk, hle, hv, hs, hq, p1, p2⟩ := h.first
  dsimp only at hv p1
  clear h
  obtain ⟨k, rfl⟩ : ∃ k : Nat, x = k := ⟨x.toNat, by have := hok.1; omega⟩
  have hkN : k * 8 < N := by have := hok.2; omega
  have HOP : Hid (doOp (.flush (k : Int)) f = flushU k f) := by show _ = _; simp only [doOp, Int.toNat_natCast]
  obtain ⟨br, bw, rfl, hbr, hbw⟩ := hv
  have hDk := hD.k
  have hbT := hD.a.ty
  have hrT := hk.tag
  have hqT : Tag w qb 94 := hq.tag rfl
  have HND : Hid (d ≠ r ∧ b ≠ r ∧ br ≠ r ∧ bw ≠ r) := ⟨hDk.tag.ne hrT (by decide), hbT.ne hrT (by decide), hbr.tag.ne hrT (by decide), hbw.tag.ne hrT (by decide)⟩
  have HRUN := Lib.hid (fun (w1 w2 w3 : World) (a' : Option Addr) (c' : Nat) => step_run (w1 := w1) (w2 := w2) (w3 := w3) (a' := a') (c' := c') hD hk hs hq hle)
  have hc5 : w.cell? ⟨r, 5, none⟩ = some (.slice (some ⟨qb, qo, none⟩) (L.length + 1) c) := hk.cell rfl
  have hf5 := hk.frozen 5
  have HDEV : Hid (∀ W, UpO (· = r) w W → DevAt W d b N f) := fun W u => hD.upo u HND.out.1 HND.out.2.1
  have HCALL : Hid (∀ W, UpO (· = r) w W → Tag W r 79 → W.cell? ⟨r, 0, none⟩ = some (.pointer (some ⟨d, 0, none⟩)) → Calls Try.prog 90 #[.pointer (some ⟨br, 0, none⟩), .pointer (some ⟨bw, 0, none⟩)] W (DevG W d b N (flushU k f))) :=
    fun W u h3 h4 => settles1_any r d b N br bw f k hkN W (HDEV.out W u) (u.blk hbr HND.out.2.2.1) (u.blk hbw HND.out.2.2.2) h3 h4
  have HK := Lib.hid hk
  have HBT := Lib.hid hbT
  clear hD hk hs hq hDk hbT hrT hqT hok hbr hbw
  have hll : (L.length : Int) + 1 - 1 = L.length := by omega
  generalize hn : L.length = n at *
  obtain rfl | hc1 : c = 1 ∨ 1 < c := by omega
  · obtain rfl : n = 0 := by omega
    go_enter Try.func15, Try.ntmps15
    go_upto_region 6 with fail
    have hb1 := Blk.new w #[.int .u8 p, (.func (.func 90) #[] #[.pointer (some ⟨br, 0, none⟩), .pointer (some ⟨bw, 0, none⟩)])] 94
    have hn1 := (Nw.refl (w := w)).alloc (.cells #[.int .u8 p, (.func (.func 90) #[] #[.pointer (some ⟨br, 0, none⟩), .pointer (some ⟨bw, 0, none⟩)])] 94)
    have HNE : Hid (r ≠ w.heap.size) := Nat.ne_of_lt HK.out.lt
    generalize w.alloc (.cells #[.int .u8 p, (.func (.func 90) #[] #[.pointer (some ⟨br, 0, none⟩), .pointer (some ⟨bw, 0, none⟩)])] 94) = w1 at *
    have HK1 := Lib.hid (HK.out.nw hn1)
    clear hc5 hf5 p1 p2
    generalize w.heap.size = cb at hb1 HNE ⊢
    have hc5 : w1.cell? ⟨r, 5, none⟩ = some (.slice (some ⟨qb, qo, none⟩) (0 + 1) 1) := HK1.out.cell rfl
    have hf5 := HK1.out.frozen 5
    go_upto_region 7 with fail
    have HU2 := Lib.hid (UpO.pre hn1 ((UpO.refl (· = r) w1).set (t := r) rfl 5 (.slice (some ⟨qb, qo, none⟩) 0 0)))
    have hb2 := hb1.far r 5 (.slice (some ⟨qb, qo, none⟩) 0 0) (Ne.symm HNE.out)
    have hk2 := HK1.out.set 5 (.slice (some ⟨qb, qo, none⟩) 0 0)
    have HR2 := Lib.hid (fun (w3 : World) (u : Up b _ w3) => HRUN.out w1 _ w3 (some ⟨qb, qo, none⟩) 0 hn1 rfl (.inl ⟨rfl, rfl, rfl⟩) u)
    have hcb0 : (w1.setCell ⟨r, 5, none⟩ (.slice (some ⟨qb, qo, none⟩) 0 0)).cell? ⟨cb, 0, none⟩ = some (.int .u8 p) := hb2.cell rfl
    have hcb1 : (w1.setCell ⟨r, 5, none⟩ (.slice (some ⟨qb, qo, none⟩) 0 0)).cell? ⟨cb, 1, none⟩ = some (.func (.func 90) #[] #[.pointer (some ⟨br, 0, none⟩), .pointer (some ⟨bw, 0, none⟩)]) := hb2.cell rfl
    have hcr : (w1.setCell ⟨r, 5, none⟩ (.slice (some ⟨qb, qo, none⟩) 0 0)).cell? ⟨r, 0, none⟩ = some (.pointer (some ⟨d, 0, none⟩)) := hk2.cell rfl
    have hcb : cb ≠ b := hb1.tag.ne (HBT.out.nw hn1) (by decide)
    have hrt := hk2.tag
    clear hb1 hb2 hk2 HK1 hc5 hf5
    generalize w1.setCell ⟨r, 5, none⟩ (.slice (some ⟨qb, qo, none⟩) 0 0) = w2 at *
    have HC := Lib.hid (HCALL.out w2.drew (HU2.out.nw Nw.refl.drew) (hrt.nw Nw.refl.drew) hcr)
    have HK9 : Hid (∀ W', Up b w2.drew W' → W'.cell? ⟨cb, 0, none⟩ = some (.int .u8 p) ∧ W'.cell? ⟨cb, 1, none⟩ = some (.func (.func 90) #[] #[.pointer (some ⟨br, 0, none⟩), .pointer (some ⟨bw, 0, none⟩)])) := fun W' u => ⟨u.cell hcb0 hcb, u.cell hcb1 hcb⟩
    clear hrt hcr hcb
    go_region_held3 (fun w' => w'.cell? ⟨cb, 0, none⟩ = some (.int .u8 p) ∧ w'.cell? ⟨cb, 1, none⟩ = some (.func (.func 90) #[] #[.pointer (some ⟨br, 0, none⟩), .pointer (some ⟨bw, 0, none⟩)]))
      (first | (exact ⟨hcb0, hcb1⟩) | (exact hk9))
      ((first | (go_at_call 90; refine HC.out.mono ?_; rintro e w4 ⟨rfl, h4, u4⟩; have hk9 := HK9.out _ u4)))
    go_wp2_with fail
    go_ret2
    obtain ⟨e1, e2, e3⟩ := HR2.out w4 ((Up.of_nw (t := b) Nw.refl.drew).trans u4)
    exact ⟨rfl, _, e1, by rw [HOP.out]; exact h4, e2, e3⟩
  · go_enter Try.func15, Try.ntmps15
    go_upto_region 6 with fail
    have hb1 := Blk.new w #[.int .u8 p, (.func (.func 90) #[] #[.pointer (some ⟨br, 0, none⟩), .pointer (some ⟨bw, 0, none⟩)])] 94
    have hn1 := (Nw.refl (w := w)).alloc (.cells #[.int .u8 p, (.func (.func 90) #[] #[.pointer (some ⟨br, 0, none⟩), .pointer (some ⟨bw, 0, none⟩)])] 94)
    have HNE : Hid (r ≠ w.heap.size) := Nat.ne_of_lt HK.out.lt
    generalize w.alloc (.cells #[.int .u8 p, (.func (.func 90) #[] #[.pointer (some ⟨br, 0, none⟩), .pointer (some ⟨bw, 0, none⟩)])] 94) = w1 at *
    have HK1 := Lib.hid (HK.out.nw hn1)
    clear hc5 hf5 p1 p2
    generalize w.heap.size = cb at hb1 HNE ⊢
    have hc5 : w1.cell? ⟨r, 5, none⟩ = some (.slice (some ⟨qb, qo, none⟩) (n + 1) c) := HK1.out.cell rfl
    have hf5 := HK1.out.frozen 5
    go_upto_region 7 with fail
    have HU2 := Lib.hid (UpO.pre hn1 ((UpO.refl (· = r) w1).set (t := r) rfl 5 (.slice (some ⟨qb, qo + 2, none⟩) n (c - 1))))
    have hb2 := hb1.far r 5 (.slice (some ⟨qb, qo + 2, none⟩) n (c - 1)) (Ne.symm HNE.out)
    have hk2 := HK1.out.set 5 (.slice (some ⟨qb, qo + 2, none⟩) n (c - 1))
    have HR2 := Lib.hid (fun (w3 : World) (u : Up b _ w3) => HRUN.out w1 _ w3 (some ⟨qb, qo + 2, none⟩) (c - 1) hn1 rfl (.inr ⟨hc1, rfl, rfl⟩) u)
    have hcb0 : (w1.setCell ⟨r, 5, none⟩ (.slice (some ⟨qb, qo + 2, none⟩) n (c - 1))).cell? ⟨cb, 0, none⟩ = some (.int .u8 p) := hb2.cell rfl
    have hcb1 : (w1.setCell ⟨r, 5, none⟩ (.slice (some ⟨qb, qo + 2, none⟩) n (c - 1))).cell? ⟨cb, 1, none⟩ = some (.func (.func 90) #[] #[.pointer (some ⟨br, 0, none⟩), .pointer (some ⟨bw, 0, none⟩)]) := hb2.cell rfl
    have hcr : (w1.setCell ⟨r, 5, none⟩ (.slice (some ⟨qb, qo + 2, none⟩) n (c - 1))).cell? ⟨r, 0, none⟩ = some (.pointer (some ⟨d, 0, none⟩)) := hk2.cell rfl
    have hcb : cb ≠ b := hb1.tag.ne (HBT.out.nw hn1) (by decide)
    have hrt := hk2.tag
    clear hb1 hb2 hk2 HK1 hc5 hf5
    generalize w1.setCell ⟨r, 5, none⟩ (.slice (some ⟨qb, qo + 2, none⟩) n (c - 1)) = w2 at *
    have HC := Lib.hid (HCALL.out w2.drew (HU2.out.nw Nw.refl.drew) (hrt.nw Nw.refl.drew) hcr)
    have HK9 : Hid (∀ W', Up b w2.drew W' → W'.cell? ⟨cb, 0, none⟩ = some (.int .u8 p) ∧ W'.cell? ⟨cb, 1, none⟩ = some (.func (.func 90) #[] #[.pointer (some ⟨br, 0, none⟩), .pointer (some ⟨bw, 0, none⟩)])) := fun W' u => ⟨u.cell hcb0 hcb, u.cell hcb1 hcb⟩
    clear hrt hcr hcb
    go_region_held3 (fun w' => w'.cell? ⟨cb, 0, none⟩ = some (.int .u8 p) ∧ w'.cell? ⟨cb, 1, none⟩ = some (.func (.func 90) #[] #[.pointer (some ⟨br, 0, none⟩), .pointer (some ⟨bw, 0, none⟩)]))
      (first | (exact ⟨hcb0, hcb1⟩) | (exact hk9))
      ((first | (go_at_call 90; refine HC.out.mono ?_; rintro e w4 ⟨rfl, h4, u4⟩; have hk9 := HK9.out _ u4)))
    go_wp2_with fail
    go_ret2
    obtain ⟨e1, e2, e3⟩ := HR2.out w4 ((Up.of_nw (t := b) Nw.refl.drew).trans u4)
    exact ⟨rfl, _, e1, by rw [HOP.out]; exact h4, e2, e3⟩

set_option maxRecDepth 100000 in
set_option maxHeartbeats 8000000 in
theorem step_fence (r d b N : Nat) (g : G) (area : Int) (L : List St) (a : Option Addr) (hL : L.length ≤ 90000) (p : Int)  (f : Nat → Wd) (hok : okOp N (.fence)) (w : World) (hD : DevAt w d b N f) (h : RunAt w r d g area (⟨p, .fence⟩ :: L) a) :
    Calls Try.prog 15 #[.pointer (some ⟨r, 0, none⟩)] w (StepG w r d b N g area a ⟨p, .fence⟩ L f) := by
  obtain ⟨qb, qo, c, v, vs, rfl, hk, hle, hv, hs, hq, p1, p2⟩ := h.first
  dsimp only at hv p1
  clear h
  have HOP : Hid (doOp .fence f = fenceU f) := rfl
  unfold StepV at hv
  subst hv
  have hDk := hD.k
  have hbT := hD.a.ty
  have hrT := hk.tag
  have hqT : Tag w qb 94 := hq.tag rfl
  have HND : Hid (d ≠ r ∧ b ≠ r) := ⟨hDk.tag.ne hrT (by decide), hbT.ne hrT (by decide)⟩
  have HRUN := Lib.hid (fun (w1 w2 w3 : World) (a' : Option Addr) (c' : Nat) => step_run (w1 := w1) (w2 := w2) (w3 := w3) (a' := a') (c' := c') hD hk hs hq hle)
  have hc5 : w.cell? ⟨r, 5, none⟩ = some (.slice (some ⟨qb, qo, none⟩) (L.length + 1) c) := hk.cell rfl
  have hf5 := hk.frozen 5
  have HDEV : Hid (∀ W, UpO (· = r) w W → DevAt W d b N f) := fun W u => hD.upo u HND.out.1 HND.out.2
  have HCALL : Hid (∀ W, UpO (· = r) w W → Tag W r 79 → W.cell? ⟨r, 0, none⟩ = some (.pointer (some ⟨d, 0, none⟩)) → Calls Try.prog 92 #[.pointer (some ⟨d, 0, none⟩)] W (DevG W d b N (fenceU f))) :=
    fun W u h3 h4 => fenced_any d b N f W (HDEV.out W u)
  have HK := Lib.hid hk
  have HBT := Lib.hid hbT
  clear hD hk hs hq hDk hbT hrT hqT hok
  have hll : (L.length : Int) + 1 - 1 = L.length := by omega
  generalize hn : L.length = n at *
  obtain rfl | hc1 : c = 1 ∨ 1 < c := by omega
  · obtain rfl : n = 0 := by omega
    go_enter Try.func15, Try.ntmps15
    go_upto_region 6 with fail
    have hb1 := Blk.new w #[.int .u8 p, (.func (.func 92) #[.pointer (some ⟨d, 0, none⟩)] #[])] 94
    have hn1 := (Nw.refl (w := w)).alloc (.cells #[.int .u8 p, (.func (.func 92) #[.pointer (some ⟨d, 0, none⟩)] #[])] 94)
    have HNE : Hid (r ≠ w.heap.size) := Nat.ne_of_lt HK.out.lt
    generalize w.alloc (.cells #[.int .u8 p, (.func (.func 92) #[.pointer (some ⟨d, 0, none⟩)] #[])] 94) = w1 at *
    have HK1 := Lib.hid (HK.out.nw hn1)
    clear hc5 hf5 p1 p2
    generalize w.heap.size = cb at hb1 HNE ⊢
    have hc5 : w1.cell? ⟨r, 5, none⟩ = some (.slice (some ⟨qb, qo, none⟩) (0 + 1) 1) := HK1.out.cell rfl
    have hf5 := HK1.out.frozen 5
    go_upto_region 7 with fail
    have HU2 := Lib.hid (UpO.pre hn1 ((UpO.refl (· = r) w1).set (t := r) rfl 5 (.slice (some ⟨qb, qo, none⟩) 0 0)))
    have hb2 := hb1.far r 5 (.slice (some ⟨qb, qo, none⟩) 0 0) (Ne.symm HNE.out)
    have hk2 := HK1.out.set 5 (.slice (some ⟨qb, qo, none⟩) 0 0)
    have HR2 := Lib.hid (fun (w3 : World) (u : Up b _ w3) => HRUN.out w1 _ w3 (some ⟨qb, qo, none⟩) 0 hn1 rfl (.inl ⟨rfl, rfl, rfl⟩) u)
    have hcb0 : (w1.setCell ⟨r, 5, none⟩ (.slice (some ⟨qb, qo, none⟩) 0 0)).cell? ⟨cb, 0, none⟩ = some (.int .u8 p) := hb2.cell rfl
    have hcb1 : (w1.setCell ⟨r, 5, none⟩ (.slice (some ⟨qb, qo, none⟩) 0 0)).cell? ⟨cb, 1, none⟩ = some (.func (.func 92) #[.pointer (some ⟨d, 0, none⟩)] #[]) := hb2.cell rfl
    have hcr : (w1.setCell ⟨r, 5, none⟩ (.slice (some ⟨qb, qo, none⟩) 0 0)).cell? ⟨r, 0, none⟩ = some (.pointer (some ⟨d, 0, none⟩)) := hk2.cell rfl
    have hcb : cb ≠ b := hb1.tag.ne (HBT.out.nw hn1) (by decide)
    have hrt := hk2.tag
    clear hb1 hb2 hk2 HK1 hc5 hf5
    generalize w1.setCell ⟨r, 5, none⟩ (.slice (some ⟨qb, qo, none⟩) 0 0) = w2 at *
    have HC := Lib.hid (HCALL.out w2.drew (HU2.out.nw Nw.refl.drew) (hrt.nw Nw.refl.drew) hcr)
    have HK9 : Hid (∀ W', Up b w2.drew W' → W'.cell? ⟨cb, 0, none⟩ = some (.int .u8 p) ∧ W'.cell? ⟨cb, 1, none⟩ = some (.func (.func 92) #[.pointer (some ⟨d, 0, none⟩)] #[])) := fun W' u => ⟨u.cell hcb0 hcb, u.cell hcb1 hcb⟩
    clear hrt hcr hcb
    go_region_held3 (fun w' => w'.cell? ⟨cb, 0, none⟩ = some (.int .u8 p) ∧ w'.cell? ⟨cb, 1, none⟩ = some (.func (.func 92) #[.pointer (some ⟨d, 0, none⟩)] #[]))
      (first | (exact ⟨hcb0, hcb1⟩) | (exact hk9))
      ((first | (go_at_call 92; refine HC.out.mono ?_; rintro e w4 ⟨rfl, h4, u4⟩; have hk9 := HK9.out _ u4)))
    go_wp2_with fail
    go_ret2
    obtain ⟨e1, e2, e3⟩ := HR2.out w4 ((Up.of_nw (t := b) Nw.refl.drew).trans u4)
    exact ⟨rfl, _, e1, by rw [HOP.out]; exact h4, e2, e3⟩
  · go_enter Try.func15, Try.ntmps15
    go_upto_region 6 with fail
    have hb1 := Blk.new w #[.int .u8 p, (.func (.func 92) #[.pointer (some ⟨d, 0, none⟩)] #[])] 94
    have hn1 := (Nw.refl (w := w)).alloc (.cells #[.int .u8 p, (.func (.func 92) #[.pointer (some ⟨d, 0, none⟩)] #[])] 94)
    have HNE : Hid (r ≠ w.heap.size) := Nat.ne_of_lt HK.out.lt
    generalize w.alloc (.cells #[.int .u8 p, (.func (.func 92) #[.pointer (some ⟨d, 0, none⟩)] #[])] 94) = w1 at *
    have HK1 := Lib.hid (HK.out.nw hn1)
    clear hc5 hf5 p1 p2
    generalize w.heap.size = cb at hb1 HNE ⊢
    have hc5 : w1.cell? ⟨r, 5, none⟩ = some (.slice (some ⟨qb, qo, none⟩) (n + 1) c) := HK1.out.cell rfl
    have hf5 := HK1.out.frozen 5
    go_upto_region 7 with fail
    have HU2 := Lib.hid (UpO.pre hn1 ((UpO.refl (· = r) w1).set (t := r) rfl 5 (.slice (some ⟨qb, qo + 2, none⟩) n (c - 1))))
    have hb2 := hb1.far r 5 (.slice (some ⟨qb, qo + 2, none⟩) n (c - 1)) (Ne.symm HNE.out)
    have hk2 := HK1.out.set 5 (.slice (some ⟨qb, qo + 2, none⟩) n (c - 1))
    have HR2 := Lib.hid (fun (w3 : World) (u : Up b _ w3) => HRUN.out w1 _ w3 (some ⟨qb, qo + 2, none⟩) (c - 1) hn1 rfl (.inr ⟨hc1, rfl, rfl⟩) u)
    have hcb0 : (w1.setCell ⟨r, 5, none⟩ (.slice (some ⟨qb, qo + 2, none⟩) n (c - 1))).cell? ⟨cb, 0, none⟩ = some (.int .u8 p) := hb2.cell rfl
    have hcb1 : (w1.setCell ⟨r, 5, none⟩ (.slice (some ⟨qb, qo + 2, none⟩) n (c - 1))).cell? ⟨cb, 1, none⟩ = some (.func (.func 92) #[.pointer (some ⟨d, 0, none⟩)] #[]) := hb2.cell rfl
    have hcr : (w1.setCell ⟨r, 5, none⟩ (.slice (some ⟨qb, qo + 2, none⟩) n (c - 1))).cell? ⟨r, 0, none⟩ = some (.pointer (some ⟨d, 0, none⟩)) := hk2.cell rfl
    have hcb : cb ≠ b := hb1.tag.ne (HBT.out.nw hn1) (by decide)
    have hrt := hk2.tag
    clear hb1 hb2 hk2 HK1 hc5 hf5
    generalize w1.setCell ⟨r, 5, none⟩ (.slice (some ⟨qb, qo + 2, none⟩) n (c - 1)) = w2 at *
    have HC := Lib.hid (HCALL.out w2.drew (HU2.out.nw Nw.refl.drew) (hrt.nw Nw.refl.drew) hcr)
    have HK9 : Hid (∀ W', Up b w2.drew W' → W'.cell? ⟨cb, 0, none⟩ = some (.int .u8 p) ∧ W'.cell? ⟨cb, 1, none⟩ = some (.func (.func 92) #[.pointer (some ⟨d, 0, none⟩)] #[])) := fun W' u => ⟨u.cell hcb0 hcb, u.cell hcb1 hcb⟩
    clear hrt hcr hcb
    go_region_held3 (fun w' => w'.cell? ⟨cb, 0, none⟩ = some (.int .u8 p) ∧ w'.cell? ⟨cb, 1, none⟩ = some (.func (.func 92) #[.pointer (some ⟨d, 0, none⟩)] #[]))
      (first | (exact ⟨hcb0, hcb1⟩) | (exact hk9))
      ((first | (go_at_call 92; refine HC.out.mono ?_; rintro e w4 ⟨rfl, h4, u4⟩; have hk9 := HK9.out _ u4)))
    go_wp2_with fail
    go_ret2
    obtain ⟨e1, e2, e3⟩ := HR2.out w4 ((Up.of_nw (t := b) Nw.refl.drew).trans u4)
    exact ⟨rfl, _, e1, by rw [HOP.out]; exact h4, e2, e3⟩

/-- A step, whatever it does. -/
theorem step_any (r d b N : Nat) (g : G) (area : Int) (s : St) (L : List St) (a : Option Addr) (hL : L.length ≤ 90000) (f : Nat → Wd) (hok : okOp N s.o) (w : World) (hD : DevAt w d b N f) (h : RunAt w r d g area (s :: L) a) :
    Calls Try.prog 15 #[.pointer (some ⟨r, 0, none⟩)] w (StepG w r d b N g area a s L f) := by
  obtain ⟨p, o⟩ := s
  cases o with
  | store x y => exact step_store r d b N g area L a hL p x y f hok w hD h
  | flush x => exact step_flush r d b N g area L a hL p x f hok w hD h
  | fence => exact step_fence r d b N g area L a hL p f hok w hD h

end Go.Proofs.Ytkopfnldgnkkoaa
