/-
  THE DOCUMENT's RUNS: New, Phase, Step.
-/
import Derived.Test.YtkopfnldgnkkoaaGreatRrC
import Derived.Test.YtkopfnldgnkkoaaGreatRwB
import Derived.Test.YtkopfnldgnkkoaaGreatCmI
namespace Go.Proofs.YtkopfnldgnkkoaaGreat
open Go.RowKit Go.Shelf
set_option linter.unusedVariables false

def RNewR (w : World) (d : Nat) (g : G) (k : Nat) (e : Ending) (w' : World) : Prop :=
  ∃ r, e = .returned (.tuple #[.pointer (some ⟨r, 0, none⟩), .int .i64 0]) ∧ RRunAt w' r d g k [] none ∧ Nw w w' ∧ w.heap.size ≤ r
set_option maxRecDepth 100000 in
set_option maxHeartbeats 4000000 in
theorem rnewrun_any (g : G) (k : Nat) (hm : mayP g) (hk : (k : Int) < g.w) (d b N : Nat) (f : Nat → Wd) (hN : wordsV g ≤ N) (w : World) (h : RevAt w d b N f) :
    Calls Tryz.prog 11 #[.pointer (some ⟨d, 0, none⟩), gV g, .int .i64 (k : Int)] w (RNewR w d g k) := by
  have hn0 := (Nw.refl (w := w)).alloc (.cells #[.int .i64 g.w, .int .i64 g.i, .int .i64 g.b] 28)
  have hb := Blk.new w #[.int .i64 g.w, .int .i64 g.i, .int .i64 g.b] 28
  have hpl : placeV g 2 (k : Int) = 264 + 208 * (k : Int) := (if_pos ⟨hm, by omega, by simp only [manyN]; omega⟩ : placeV g 2 (k : Int) = atN g 2 + sizeN 2 * k).trans (by simp only [atN, sizeN])
  have hle := h.le
  have HD := Lib.hid h
  have hk4 : (k : Int) ≤ 4 := by have := hm.2.1; omega
  unfold gV
  clear h
  go_enter Tryz.func11, Tryz.ntmps11
  go_upto_region 1 with fail
  generalize w.alloc (.cells #[.int .i64 g.w, .int .i64 g.i, .int .i64 g.b] 28) = w1 at *
  generalize hbx : w.heap.size = bx at hb ⊢
  have HBX := Lib.hid hbx
  have HA := Lib.hid (rarea_at g k (w0 := w1) (w := w1) At.refl)
  rw [hpl] at HA
  unfold gV at HA
  have HN := Lib.hid hn0
  have HB := Lib.hid hb
  have c0 : w1.cell? ⟨bx, 0, none⟩ = some (.int .i64 g.w) := hb.cell rfl
  have c1 : w1.cell? ⟨bx, 1, none⟩ = some (.int .i64 g.i) := hb.cell rfl
  have c2 : w1.cell? ⟨bx, 2, none⟩ = some (.int .i64 g.b) := hb.cell rfl
  clear hb hn0 hpl hbx
  go_wp2_with fail
  (with_reducible refine HA.out.mono ?_)
  rintro e w2 ⟨rfl, h2⟩
  have HN2 := Lib.hid (HN.out.trans h2.nw)
  have hs2 := (HD.out.nw HN2.out).s
  have HK9 : Hid (∀ W, Nw w2 W → W.cell? ⟨bx, 0, none⟩ = some (.int .i64 g.w) ∧ W.cell? ⟨bx, 1, none⟩ = some (.int .i64 g.i) ∧ W.cell? ⟨bx, 2, none⟩ = some (.int .i64 g.b) ∧ W.cell? ⟨d, 0, none⟩ = some (.slice (some ⟨b, 0, none⟩) N N)) :=
    fun W q => ⟨((HB.out.nw h2.nw).nw q).cell rfl, ((HB.out.nw h2.nw).nw q).cell rfl, ((HB.out.nw h2.nw).nw q).cell rfl, ((HD.out.nw HN2.out).nw q).s⟩
  have HLW := Lib.hid (fun (W : World) => rwords_any g (At.refl (w := W)))
  unfold gV at HLW
  generalize wordsV g = V at *
  have HM := Lib.hid hm
  clear h2 c0 c1 c2 hm
  obtain ⟨c0, c1, c2, c3⟩ := HK9.out w2 Nw.refl
  go_wp2_with fail
  go_region_held3 (fun w' => w'.cell? ⟨bx, 0, none⟩ = some (.int .i64 g.w) ∧ w'.cell? ⟨bx, 1, none⟩ = some (.int .i64 g.i) ∧ w'.cell? ⟨bx, 2, none⟩ = some (.int .i64 g.b) ∧ w'.cell? ⟨d, 0, none⟩ = some (.slice (some ⟨b, 0, none⟩) N N))
    (first | (exact HK9.out _ Nw.refl.drew) | (exact HK9.out _ hk9))
    ((first
      | (go_at_call 48; (with_reducible refine (HLW.out _).mono ?_); rintro e w6 ⟨rfl, h6⟩; have hk9 := (Nw.refl (w := w2)).drew.trans h6.nw)))
  have HN6 := Lib.hid (HN2.out.trans hk9)
  clear c0 c1 c2 c3
  obtain ⟨c0, c1, c2, c3⟩ := HK9.out _ hk9
  clear hk9 h6
  go_wp2_with fail
  go_ret2
  exact ⟨w6.heap.size, rfl, ⟨0, Blk.new _ _ _, Nat.le_refl _, Qs.nil _ _ _⟩, HN6.out.alloc _, HN6.out.b.size⟩
set_option maxHeartbeats 1000000 in
theorem rphase_any (r d : Nat) (g : G) (k : Nat) (L : List St) (a : Option Addr) (hL : L.length ≤ 100000) (w : World) (h : RRunAt w r d g k L a) :
    Calls Tryz.prog 25 #[.pointer (some ⟨r, 0, none⟩)] w fun e w' => e = .returned (.int .i64 (phaseOf L)) ∧ w = w' := by
  obtain ⟨c, hb, hle, hq⟩ := h.k
  have h5 : w.cell? ⟨r, 5, none⟩ = some (.slice a L.length c) := hb.cell rfl
  cases L with
  | nil =>
    simp only [List.length_nil] at h5
    clear h hb hq
    go_enter Tryz.func25, Tryz.ntmps25
    go_wp2_with fail
    go_ret
    exact ⟨rfl, rfl⟩
  | cons s L =>
    rcases hq with ⟨_, h0, _⟩ | ⟨qb, qo, rfl, _, _, _, _, hc⟩
    · have := congrArg List.length h0
      rw [stR_len] at this
      simp at this
    have p0 := hc 0 (by rw [stR_len]; simp)
    have e0 : (stR (s :: L))[0]'(by rw [stR_len]; simp) = .int .i64 s.p := by
      obtain ⟨sp, so⟩ := s
      cases so <;> rfl
    rw [e0, Nat.add_zero] at p0
    clear e0 hc h hb
    have hph : phaseOf (s :: L) = s.p := rfl
    rw [hph]
    generalize s.p = pp at *
    obtain ⟨M, hM⟩ : ∃ M, (s :: L).length = M := ⟨_, rfl⟩
    have hM0 : ¬ (M : Int) = 0 := by rw [← hM]; simp; omega
    have hM1 : (0 : Int) < (M : Int) := by omega
    rw [hM] at h5
    clear hph hM hL hle
    go_enter Tryz.func25, Tryz.ntmps25
    go_wp2_with fail
    go_ret
    exact ⟨rfl, rfl⟩

set_option maxHeartbeats 1000000 in
theorem rstep_none (r d : Nat) (g : G) (k : Nat) (a : Option Addr) (w : World) (h : RRunAt w r d g k [] a) :
    Calls Tryz.prog 23 #[.pointer (some ⟨r, 0, none⟩)] w fun e w' => e = .returned (.tuple #[.int .i64 0, .int .i64 3]) ∧ w = w' := by
  obtain ⟨c, hb, hle, hq⟩ := h.k
  have h5 : w.cell? ⟨r, 5, none⟩ = some (.slice a 0 c) := hb.cell rfl
  clear h hb hq
  go_enter Tryz.func23, Tryz.ntmps23
  go_wp2_with fail
  go_ret2
  exact ⟨rfl, rfl⟩
/-- What a step does with a device whose words that are flushed are loose. -/
def RStepG (w : World) (r d b N : Nat) (g : G) (k : Nat) (a : Option Addr) (s : St) (L : List St) (f' : Nat → Wd) (e : Ending) (w' : World) : Prop :=
  e = .returned (.tuple #[.int .i64 s.p, .int .i64 0]) ∧ ∃ a', RRunAt w' r d g k L a' ∧ RevAt w' d b N f' ∧ UpO (fun x => x = b ∨ x = r) w w' ∧ ∀ x, QB a' x → QB a x
def doOpR : Op9 → (Nat → Wd) → (Nat → Wd)
  | .store x v, f => upd f x.toNat (storeW (f x.toNat) v)
  | .flush l, f => flushU l.toNat f
  | .fence, f => fun k => fenceW (f k)
/-- The run behind its first step. -/
theorem rstep_run {w w1 w2 w3 : World} {r d b N : Nat} {g : G} {k : Nat} {qb qo c : Nat} {s : St} {L : List St} {F : Nat → Wd} {a' : Option Addr} {c' : Nat}
    (hD : RevAt w d b N F) (hk : Blk w r #[.pointer (some ⟨d, 0, none⟩), .int .i64 g.w, .int .i64 g.i, .int .i64 g.b, .int .i64 (k : Int), .slice (some ⟨qb, qo, none⟩) (L.length + 1) c] 58)
    (hq : Qs w 115 4 (some ⟨qb, qo, none⟩) c (stR (s :: L))) (hle : L.length + 1 ≤ c)
    (h01 : Nw w w1) (h12 : w2 = w1.setCell ⟨r, 5, none⟩ (.slice a' L.length c')) (ha : (c = 1 ∧ a' = some ⟨qb, qo, none⟩ ∧ c' = 0) ∨ (1 < c ∧ a' = some ⟨qb, qo + 4, none⟩ ∧ c' = c - 1))
    (h23 : Up b w2 w3) : RRunAt w3 r d g k L a' ∧ UpO (fun x => x = b ∨ x = r) w w3 ∧ ∀ x, QB a' x → QB (some ⟨qb, qo, none⟩) x := by
  have hrT := hk.tag
  have hrb : r ≠ b := hrT.ne hD.a.ty (by decide)
  have hqT := hq.tag (p := ⟨qb, qo, none⟩) rfl
  have hqr : qb ≠ r := hqT.ne hrT (by decide)
  have hqb : qb ≠ b := hqT.ne hD.a.ty (by decide)
  have hu : UpO (fun x => x = b ∨ x = r) w w3 := by
    rw [h12] at h23
    exact ((UpO.of_nw h01).trans (UpO.of_up (O := fun x => x = r) ((Up.refl r w1).set 5 _) rfl) (fun x hx => .inl (.inr hx))).trans (UpO.of_up (O := fun x => x = b) h23 rfl) (fun x hx => .inl (.inl hx))
  refine ⟨⟨c', ?_, ?_, ?_⟩, hu, ?_⟩
  · have h2 : Blk w2 r #[.pointer (some ⟨d, 0, none⟩), .int .i64 g.w, .int .i64 g.i, .int .i64 g.b, .int .i64 (k : Int), .slice a' L.length c'] 58 := by
      rw [h12]; exact (hk.nw h01).set 5 _
    exact h2.up h23 hrb
  · rcases ha with ⟨h1, _, h3⟩ | ⟨h1, _, h3⟩ <;> omega
  · have hno : ∀ p, a' = some p → ¬ (p.block = b ∨ p.block = r) := by
      intro p hp
      rcases ha with ⟨_, h2, _⟩ | ⟨_, h2, _⟩ <;> (rw [h2] at hp; cases hp; rintro (h | h); exact hqb h; exact hqr h)
    have h9 : Qs w 115 4 a' c' (stR L) := by
      rcases ha with ⟨h1, h2, h3⟩ | ⟨h1, h2, h3⟩
      · subst h2 h3
        have : L = [] := List.length_eq_zero_iff.1 (by omega)
        rw [this]
        exact hq.empty
      · subst h2 h3
        have := hq.tail h1
        rwa [show (stR (s :: L)).drop 4 = stR L from by
          show (stC s ++ stR L).drop 4 = _
          rw [List.drop_append_of_le_length (by rw [stC_len]; exact Nat.le_refl _), List.drop_of_length_le (by rw [stC_len]; exact Nat.le_refl _)]; rfl] at this
    exact h9.upo hu hno
  · rintro x ⟨p, hp, rfl⟩
    rcases ha with ⟨_, h2, _⟩ | ⟨_, h2, _⟩ <;> (rw [h2] at hp; cases hp; exact ⟨_, rfl, rfl⟩)

theorem RRunAt.first {w : World} {r d : Nat} {g : G} {k : Nat} {s : St} {L : List St} {a : Option Addr} (h : RRunAt w r d g k (s :: L) a) :
    ∃ qb qo c, a = some ⟨qb, qo, none⟩ ∧ Blk w r #[.pointer (some ⟨d, 0, none⟩), .int .i64 g.w, .int .i64 g.i, .int .i64 g.b, .int .i64 (k : Int), .slice a (L.length + 1) c] 58 ∧ L.length + 1 ≤ c ∧ Qs w 115 4 a c (stR (s :: L)) ∧
      ∀ j v, (stC s)[j]? = some v → w.cell? ⟨qb, qo + j, none⟩ = some v := by
  obtain ⟨c, hb, hle, hq⟩ := h.k
  rcases hq with ⟨_, h0, _⟩ | ⟨qb, qo, rfl, x1, x2, x3, x4, hc⟩
  · have := congrArg List.length h0
    rw [stR_len] at this
    simp at this
  · refine ⟨qb, qo, c, rfl, hb, hle, .inr ⟨qb, qo, rfl, x1, x2, x3, x4, hc⟩, fun j v hj => ?_⟩
    have hlt : j < (stC s).length := (List.getElem?_eq_some_iff.1 hj).1
    have hlt2 : j < (stR (s :: L)).length := by rw [stR_len]; rw [stC_len] at hlt; simp; omega
    rw [hc j hlt2]
    have : (stR (s :: L))[j]? = (stC s)[j]? := by
      show (stC s ++ stR L)[j]? = _
      rw [List.getElem?_append_left hlt]
    rw [List.getElem?_eq_getElem hlt2, hj] at this
    exact this
set_option maxRecDepth 100000 in
set_option maxHeartbeats 8000000 in
theorem rstep_store (r d b N : Nat) (g : G) (k : Nat) (L : List St) (a : Option Addr) (hL : L.length ≤ 90000) (p : Int) (x y : Int) (f : Nat → Wd) (hok : okOp N (.store x y)) (w : World) (hD : RevAt w d b N f) (h : RRunAt w r d g k (⟨p, (.store x y)⟩ :: L) a) :
    Calls Tryz.prog 23 #[.pointer (some ⟨r, 0, none⟩)] w (RStepG w r d b N g k a ⟨p, (.store x y)⟩ L (doOpR (.store x y) f)) := by
  obtain ⟨qb, qo, c, rfl, hk, hle, hq, hp⟩ := h.first
  clear h
  obtain ⟨q, rfl⟩ : ∃ q : Nat, x = q := ⟨x.toNat, by have := hok.1; omega⟩
  have hkN : q < N := by have := hok.2; omega
  have HOP : Hid (doOpR (.store (q : Int) y) f = upd f q (storeW (f q) y)) := by show _ = _; simp only [doOpR, Int.toNat_natCast]
  have p0 : w.cell? ⟨qb, qo, none⟩ = some (.int .i64 p) := hp 0 _ rfl
  have p1 : w.cell? ⟨qb, qo + 1, none⟩ = some (.int .i64 0) := hp 1 _ rfl
  have p2 : w.cell? ⟨qb, qo + 2, none⟩ = some (.int .i64 (q : Int)) := hp 2 _ rfl
  have p3 : w.cell? ⟨qb, qo + 3, none⟩ = some (.int .u64 y) := hp 3 _ rfl
  have hDk := hD.k
  have hbT := hD.a.ty
  have hrT := hk.tag
  have HND : Hid (d ≠ r ∧ b ≠ r) := ⟨hDk.tag.ne hrT (by decide), hbT.ne hrT (by decide)⟩
  have HRUN := Lib.hid (fun (w1 w2 w3 : World) (a' : Option Addr) (c' : Nat) => rstep_run (w1 := w1) (w2 := w2) (w3 := w3) (a' := a') (c' := c') hD hk hq hle)
  have hc5 : w.cell? ⟨r, 5, none⟩ = some (.slice (some ⟨qb, qo, none⟩) (L.length + 1) c) := hk.cell rfl
  have hf5 := hk.frozen 5
  have HDEV : Hid (∀ W, UpO (· = r) w W → RevAt W d b N f) := fun W u => hD.upo u HND.out.1 HND.out.2
  have HCALL : Hid (∀ W, UpO (· = r) w W → Calls Tryz.prog 17 #[.pointer (some ⟨d, 0, none⟩), .int .i64 (q : Int), .int .u64 y] W (fun e w' => (∃ u, e = .returned u) ∧ RevAt w' d b N (upd f q (storeW (f q) y)) ∧ Up b W w')) := fun W u => (rstore_any d b N f q hkN y W (HDEV.out W u)).mono fun e w' h => ⟨⟨_, h.1⟩, h.2.1, h.2.2⟩
  have HK := Lib.hid hk
  have HBT := Lib.hid hbT
  clear hD hk hq hDk hbT hrT hok hp
  generalize hn : L.length = n at *
  obtain rfl | hc1 : c = 1 ∨ 1 < c := by omega
  · obtain rfl : n = 0 := by omega
    go_enter Tryz.func23, Tryz.ntmps23
    go_upto_region 4 with fail
    have hb1 := Blk.new w #[.int .i64 p, .int .i64 0, .int .i64 (q : Int), .int .u64 y] 115
    have hn1 := (Nw.refl (w := w)).alloc (.cells #[.int .i64 p, .int .i64 0, .int .i64 (q : Int), .int .u64 y] 115)
    have HNE : Hid (r ≠ w.heap.size) := Nat.ne_of_lt HK.out.lt
    generalize w.alloc (.cells #[.int .i64 p, .int .i64 0, .int .i64 (q : Int), .int .u64 y] 115) = w1 at *
    have HK1 := Lib.hid (HK.out.nw hn1)
    clear hc5 hf5 p0 p1 p2 p3
    generalize w.heap.size = cb at hb1 HNE ⊢
    have hc5 : w1.cell? ⟨r, 5, none⟩ = some (.slice (some ⟨qb, qo, none⟩) (0 + 1) 1) := HK1.out.cell rfl
    have hf5 := HK1.out.frozen 5
    go_upto_region 5 with fail
    have HU2 := Lib.hid (UpO.pre hn1 ((UpO.refl (· = r) w1).set (t := r) rfl 5 (.slice (some ⟨qb, qo, none⟩) 0 0)))
    have hb2 := hb1.far r 5 (.slice (some ⟨qb, qo, none⟩) 0 0) (Ne.symm HNE.out)
    have hk2 := HK1.out.set 5 (.slice (some ⟨qb, qo, none⟩) 0 0)
    have HR2 := Lib.hid (fun (w3 : World) (u : Up b _ w3) => HRUN.out w1 _ w3 (some ⟨qb, qo, none⟩) 0 hn1 rfl (.inl ⟨rfl, rfl, rfl⟩) u)
    have hcb0 : (w1.setCell ⟨r, 5, none⟩ (.slice (some ⟨qb, qo, none⟩) 0 0)).cell? ⟨cb, 0, none⟩ = some (.int .i64 p) := hb2.cell rfl
    have hcb1 : (w1.setCell ⟨r, 5, none⟩ (.slice (some ⟨qb, qo, none⟩) 0 0)).cell? ⟨cb, 1, none⟩ = some (.int .i64 0) := hb2.cell rfl
    have hcb2 : (w1.setCell ⟨r, 5, none⟩ (.slice (some ⟨qb, qo, none⟩) 0 0)).cell? ⟨cb, 2, none⟩ = some (.int .i64 (q : Int)) := hb2.cell rfl
    have hcb3 : (w1.setCell ⟨r, 5, none⟩ (.slice (some ⟨qb, qo, none⟩) 0 0)).cell? ⟨cb, 3, none⟩ = some (.int .u64 y) := hb2.cell rfl
    have hcr : (w1.setCell ⟨r, 5, none⟩ (.slice (some ⟨qb, qo, none⟩) 0 0)).cell? ⟨r, 0, none⟩ = some (.pointer (some ⟨d, 0, none⟩)) := hk2.cell rfl
    have hcb : cb ≠ b := hb1.tag.ne (HBT.out.nw hn1) (by decide)
    have hrb : r ≠ b := HND.out.2.symm
    clear hb1 hb2 hk2 HK1 hc5 hf5
    generalize w1.setCell ⟨r, 5, none⟩ (.slice (some ⟨qb, qo, none⟩) 0 0) = w2 at *
    have HC := Lib.hid (HCALL.out w2.drew (HU2.out.nw Nw.refl.drew))
    have HK9 : Hid (∀ W', Up b w2.drew W' → W'.cell? ⟨r, 0, none⟩ = some (.pointer (some ⟨d, 0, none⟩)) ∧ W'.cell? ⟨cb, 2, none⟩ = some (.int .i64 (q : Int)) ∧ W'.cell? ⟨cb, 3, none⟩ = some (.int .u64 y)) := fun W' u => ⟨u.cell hcr hrb, u.cell hcb2 hcb, u.cell hcb3 hcb⟩
    go_wp2_with fail
    go_region_held3 (fun w' => w'.cell? ⟨r, 0, none⟩ = some (.pointer (some ⟨d, 0, none⟩)) ∧ w'.cell? ⟨cb, 2, none⟩ = some (.int .i64 (q : Int)) ∧ w'.cell? ⟨cb, 3, none⟩ = some (.int .u64 y))
      (first | (exact ⟨hcr, hcb2, hcb3⟩) | (exact HK9.out _ u4))
      ((first | (go_at_call 17; (with_reducible refine HC.out.mono ?_); rintro e w4 ⟨⟨u, rfl⟩, h4, u4⟩)))
    have hq0 := u4.cell (a := w2.drew) hcb0 hcb
    go_wp2_with fail
    go_ret2
    obtain ⟨e1, e2, e3⟩ := HR2.out w4 ((Up.of_nw (t := b) Nw.refl.drew).trans u4)
    exact ⟨rfl, _, e1, by rw [HOP.out]; exact h4, e2, e3⟩
  · have hni : (n : Int) ≤ 90000 := by omega
    have hci : (1 : Int) < (c : Int) := by omega
    go_enter Tryz.func23, Tryz.ntmps23
    go_upto_region 4 with fail
    have hb1 := Blk.new w #[.int .i64 p, .int .i64 0, .int .i64 (q : Int), .int .u64 y] 115
    have hn1 := (Nw.refl (w := w)).alloc (.cells #[.int .i64 p, .int .i64 0, .int .i64 (q : Int), .int .u64 y] 115)
    have HNE : Hid (r ≠ w.heap.size) := Nat.ne_of_lt HK.out.lt
    generalize w.alloc (.cells #[.int .i64 p, .int .i64 0, .int .i64 (q : Int), .int .u64 y] 115) = w1 at *
    have HK1 := Lib.hid (HK.out.nw hn1)
    clear hc5 hf5 p0 p1 p2 p3
    generalize w.heap.size = cb at hb1 HNE ⊢
    have hc5 : w1.cell? ⟨r, 5, none⟩ = some (.slice (some ⟨qb, qo, none⟩) (n + 1) c) := HK1.out.cell rfl
    have hf5 := HK1.out.frozen 5
    go_upto_region 5 with fail
    have HU2 := Lib.hid (UpO.pre hn1 ((UpO.refl (· = r) w1).set (t := r) rfl 5 (.slice (some ⟨qb, qo + 4, none⟩) n (c - 1))))
    have hb2 := hb1.far r 5 (.slice (some ⟨qb, qo + 4, none⟩) n (c - 1)) (Ne.symm HNE.out)
    have hk2 := HK1.out.set 5 (.slice (some ⟨qb, qo + 4, none⟩) n (c - 1))
    have HR2 := Lib.hid (fun (w3 : World) (u : Up b _ w3) => HRUN.out w1 _ w3 (some ⟨qb, qo + 4, none⟩) (c - 1) hn1 rfl (.inr ⟨hc1, rfl, rfl⟩) u)
    have hcb0 : (w1.setCell ⟨r, 5, none⟩ (.slice (some ⟨qb, qo + 4, none⟩) n (c - 1))).cell? ⟨cb, 0, none⟩ = some (.int .i64 p) := hb2.cell rfl
    have hcb1 : (w1.setCell ⟨r, 5, none⟩ (.slice (some ⟨qb, qo + 4, none⟩) n (c - 1))).cell? ⟨cb, 1, none⟩ = some (.int .i64 0) := hb2.cell rfl
    have hcb2 : (w1.setCell ⟨r, 5, none⟩ (.slice (some ⟨qb, qo + 4, none⟩) n (c - 1))).cell? ⟨cb, 2, none⟩ = some (.int .i64 (q : Int)) := hb2.cell rfl
    have hcb3 : (w1.setCell ⟨r, 5, none⟩ (.slice (some ⟨qb, qo + 4, none⟩) n (c - 1))).cell? ⟨cb, 3, none⟩ = some (.int .u64 y) := hb2.cell rfl
    have hcr : (w1.setCell ⟨r, 5, none⟩ (.slice (some ⟨qb, qo + 4, none⟩) n (c - 1))).cell? ⟨r, 0, none⟩ = some (.pointer (some ⟨d, 0, none⟩)) := hk2.cell rfl
    have hcb : cb ≠ b := hb1.tag.ne (HBT.out.nw hn1) (by decide)
    have hrb : r ≠ b := HND.out.2.symm
    clear hb1 hb2 hk2 HK1 hc5 hf5
    generalize w1.setCell ⟨r, 5, none⟩ (.slice (some ⟨qb, qo + 4, none⟩) n (c - 1)) = w2 at *
    have HC := Lib.hid (HCALL.out w2.drew (HU2.out.nw Nw.refl.drew))
    have HK9 : Hid (∀ W', Up b w2.drew W' → W'.cell? ⟨r, 0, none⟩ = some (.pointer (some ⟨d, 0, none⟩)) ∧ W'.cell? ⟨cb, 2, none⟩ = some (.int .i64 (q : Int)) ∧ W'.cell? ⟨cb, 3, none⟩ = some (.int .u64 y)) := fun W' u => ⟨u.cell hcr hrb, u.cell hcb2 hcb, u.cell hcb3 hcb⟩
    go_wp2_with fail
    go_region_held3 (fun w' => w'.cell? ⟨r, 0, none⟩ = some (.pointer (some ⟨d, 0, none⟩)) ∧ w'.cell? ⟨cb, 2, none⟩ = some (.int .i64 (q : Int)) ∧ w'.cell? ⟨cb, 3, none⟩ = some (.int .u64 y))
      (first | (exact ⟨hcr, hcb2, hcb3⟩) | (exact HK9.out _ u4))
      ((first | (go_at_call 17; (with_reducible refine HC.out.mono ?_); rintro e w4 ⟨⟨u, rfl⟩, h4, u4⟩)))
    have hq0 := u4.cell (a := w2.drew) hcb0 hcb
    go_wp2_with fail
    go_ret2
    obtain ⟨e1, e2, e3⟩ := HR2.out w4 ((Up.of_nw (t := b) Nw.refl.drew).trans u4)
    exact ⟨rfl, _, e1, by rw [HOP.out]; exact h4, e2, e3⟩
set_option maxRecDepth 100000 in
set_option maxHeartbeats 8000000 in
theorem rstep_flush (r d b N : Nat) (g : G) (k : Nat) (L : List St) (a : Option Addr) (hL : L.length ≤ 90000) (p : Int) (x : Int) (f : Nat → Wd) (hok : okOp N (.flush x)) (w : World) (hD : RevAt w d b N f) (h : RRunAt w r d g k (⟨p, (.flush x)⟩ :: L) a) :
    Calls Tryz.prog 23 #[.pointer (some ⟨r, 0, none⟩)] w (RStepG w r d b N g k a ⟨p, (.flush x)⟩ L (doOpR (.flush x) f)) := by
  obtain ⟨qb, qo, c, rfl, hk, hle, hq, hp⟩ := h.first
  clear h
  obtain ⟨q, rfl⟩ : ∃ q : Nat, x = q := ⟨x.toNat, by have := hok.1; omega⟩
  have hkN : q * 8 < N := by have := hok.2; omega
  have HOP : Hid (doOpR (.flush (q : Int)) f = flushU q f) := by show _ = _; simp only [doOpR, Int.toNat_natCast]
  have p0 : w.cell? ⟨qb, qo, none⟩ = some (.int .i64 p) := hp 0 _ rfl
  have p1 : w.cell? ⟨qb, qo + 1, none⟩ = some (.int .i64 1) := hp 1 _ rfl
  have p2 : w.cell? ⟨qb, qo + 2, none⟩ = some (.int .i64 (q : Int)) := hp 2 _ rfl
  have p3 : w.cell? ⟨qb, qo + 3, none⟩ = some (.int .u64 0) := hp 3 _ rfl
  have hDk := hD.k
  have hbT := hD.a.ty
  have hrT := hk.tag
  have HND : Hid (d ≠ r ∧ b ≠ r) := ⟨hDk.tag.ne hrT (by decide), hbT.ne hrT (by decide)⟩
  have HRUN := Lib.hid (fun (w1 w2 w3 : World) (a' : Option Addr) (c' : Nat) => rstep_run (w1 := w1) (w2 := w2) (w3 := w3) (a' := a') (c' := c') hD hk hq hle)
  have hc5 : w.cell? ⟨r, 5, none⟩ = some (.slice (some ⟨qb, qo, none⟩) (L.length + 1) c) := hk.cell rfl
  have hf5 := hk.frozen 5
  have HDEV : Hid (∀ W, UpO (· = r) w W → RevAt W d b N f) := fun W u => hD.upo u HND.out.1 HND.out.2
  have HCALL : Hid (∀ W, UpO (· = r) w W → Calls Tryz.prog 75 #[.pointer (some ⟨d, 0, none⟩), .int .i64 (q : Int)] W (fun e w' => (∃ u, e = .returned u) ∧ RevAt w' d b N (flushU q f) ∧ Up b W w')) := fun W u => (rflush_any d b N f q hkN W (HDEV.out W u)).mono fun e w' h => ⟨⟨_, h.1⟩, h.2.1, h.2.2⟩
  have HK := Lib.hid hk
  have HBT := Lib.hid hbT
  clear hD hk hq hDk hbT hrT hok hp
  generalize hn : L.length = n at *
  obtain rfl | hc1 : c = 1 ∨ 1 < c := by omega
  · obtain rfl : n = 0 := by omega
    go_enter Tryz.func23, Tryz.ntmps23
    go_upto_region 4 with fail
    have hb1 := Blk.new w #[.int .i64 p, .int .i64 1, .int .i64 (q : Int), .int .u64 0] 115
    have hn1 := (Nw.refl (w := w)).alloc (.cells #[.int .i64 p, .int .i64 1, .int .i64 (q : Int), .int .u64 0] 115)
    have HNE : Hid (r ≠ w.heap.size) := Nat.ne_of_lt HK.out.lt
    generalize w.alloc (.cells #[.int .i64 p, .int .i64 1, .int .i64 (q : Int), .int .u64 0] 115) = w1 at *
    have HK1 := Lib.hid (HK.out.nw hn1)
    clear hc5 hf5 p0 p1 p2 p3
    generalize w.heap.size = cb at hb1 HNE ⊢
    have hc5 : w1.cell? ⟨r, 5, none⟩ = some (.slice (some ⟨qb, qo, none⟩) (0 + 1) 1) := HK1.out.cell rfl
    have hf5 := HK1.out.frozen 5
    go_upto_region 5 with fail
    have HU2 := Lib.hid (UpO.pre hn1 ((UpO.refl (· = r) w1).set (t := r) rfl 5 (.slice (some ⟨qb, qo, none⟩) 0 0)))
    have hb2 := hb1.far r 5 (.slice (some ⟨qb, qo, none⟩) 0 0) (Ne.symm HNE.out)
    have hk2 := HK1.out.set 5 (.slice (some ⟨qb, qo, none⟩) 0 0)
    have HR2 := Lib.hid (fun (w3 : World) (u : Up b _ w3) => HRUN.out w1 _ w3 (some ⟨qb, qo, none⟩) 0 hn1 rfl (.inl ⟨rfl, rfl, rfl⟩) u)
    have hcb0 : (w1.setCell ⟨r, 5, none⟩ (.slice (some ⟨qb, qo, none⟩) 0 0)).cell? ⟨cb, 0, none⟩ = some (.int .i64 p) := hb2.cell rfl
    have hcb1 : (w1.setCell ⟨r, 5, none⟩ (.slice (some ⟨qb, qo, none⟩) 0 0)).cell? ⟨cb, 1, none⟩ = some (.int .i64 1) := hb2.cell rfl
    have hcb2 : (w1.setCell ⟨r, 5, none⟩ (.slice (some ⟨qb, qo, none⟩) 0 0)).cell? ⟨cb, 2, none⟩ = some (.int .i64 (q : Int)) := hb2.cell rfl
    have hcb3 : (w1.setCell ⟨r, 5, none⟩ (.slice (some ⟨qb, qo, none⟩) 0 0)).cell? ⟨cb, 3, none⟩ = some (.int .u64 0) := hb2.cell rfl
    have hcr : (w1.setCell ⟨r, 5, none⟩ (.slice (some ⟨qb, qo, none⟩) 0 0)).cell? ⟨r, 0, none⟩ = some (.pointer (some ⟨d, 0, none⟩)) := hk2.cell rfl
    have hcb : cb ≠ b := hb1.tag.ne (HBT.out.nw hn1) (by decide)
    have hrb : r ≠ b := HND.out.2.symm
    clear hb1 hb2 hk2 HK1 hc5 hf5
    generalize w1.setCell ⟨r, 5, none⟩ (.slice (some ⟨qb, qo, none⟩) 0 0) = w2 at *
    have HC := Lib.hid (HCALL.out w2.drew (HU2.out.nw Nw.refl.drew))
    have HK9 : Hid (∀ W', Up b w2.drew W' → W'.cell? ⟨r, 0, none⟩ = some (.pointer (some ⟨d, 0, none⟩)) ∧ W'.cell? ⟨cb, 2, none⟩ = some (.int .i64 (q : Int))) := fun W' u => ⟨u.cell hcr hrb, u.cell hcb2 hcb⟩
    go_wp2_with fail
    go_region_held3 (fun w' => w'.cell? ⟨r, 0, none⟩ = some (.pointer (some ⟨d, 0, none⟩)) ∧ w'.cell? ⟨cb, 2, none⟩ = some (.int .i64 (q : Int)))
      (first | (exact ⟨hcr, hcb2⟩) | (exact HK9.out _ u4))
      ((first | (go_at_call 75; (with_reducible refine HC.out.mono ?_); rintro e w4 ⟨⟨u, rfl⟩, h4, u4⟩)))
    have hq0 := u4.cell (a := w2.drew) hcb0 hcb
    go_wp2_with fail
    go_ret2
    obtain ⟨e1, e2, e3⟩ := HR2.out w4 ((Up.of_nw (t := b) Nw.refl.drew).trans u4)
    exact ⟨rfl, _, e1, by rw [HOP.out]; exact h4, e2, e3⟩
  · have hni : (n : Int) ≤ 90000 := by omega
    have hci : (1 : Int) < (c : Int) := by omega
    go_enter Tryz.func23, Tryz.ntmps23
    go_upto_region 4 with fail
    have hb1 := Blk.new w #[.int .i64 p, .int .i64 1, .int .i64 (q : Int), .int .u64 0] 115
    have hn1 := (Nw.refl (w := w)).alloc (.cells #[.int .i64 p, .int .i64 1, .int .i64 (q : Int), .int .u64 0] 115)
    have HNE : Hid (r ≠ w.heap.size) := Nat.ne_of_lt HK.out.lt
    generalize w.alloc (.cells #[.int .i64 p, .int .i64 1, .int .i64 (q : Int), .int .u64 0] 115) = w1 at *
    have HK1 := Lib.hid (HK.out.nw hn1)
    clear hc5 hf5 p0 p1 p2 p3
    generalize w.heap.size = cb at hb1 HNE ⊢
    have hc5 : w1.cell? ⟨r, 5, none⟩ = some (.slice (some ⟨qb, qo, none⟩) (n + 1) c) := HK1.out.cell rfl
    have hf5 := HK1.out.frozen 5
    go_upto_region 5 with fail
    have HU2 := Lib.hid (UpO.pre hn1 ((UpO.refl (· = r) w1).set (t := r) rfl 5 (.slice (some ⟨qb, qo + 4, none⟩) n (c - 1))))
    have hb2 := hb1.far r 5 (.slice (some ⟨qb, qo + 4, none⟩) n (c - 1)) (Ne.symm HNE.out)
    have hk2 := HK1.out.set 5 (.slice (some ⟨qb, qo + 4, none⟩) n (c - 1))
    have HR2 := Lib.hid (fun (w3 : World) (u : Up b _ w3) => HRUN.out w1 _ w3 (some ⟨qb, qo + 4, none⟩) (c - 1) hn1 rfl (.inr ⟨hc1, rfl, rfl⟩) u)
    have hcb0 : (w1.setCell ⟨r, 5, none⟩ (.slice (some ⟨qb, qo + 4, none⟩) n (c - 1))).cell? ⟨cb, 0, none⟩ = some (.int .i64 p) := hb2.cell rfl
    have hcb1 : (w1.setCell ⟨r, 5, none⟩ (.slice (some ⟨qb, qo + 4, none⟩) n (c - 1))).cell? ⟨cb, 1, none⟩ = some (.int .i64 1) := hb2.cell rfl
    have hcb2 : (w1.setCell ⟨r, 5, none⟩ (.slice (some ⟨qb, qo + 4, none⟩) n (c - 1))).cell? ⟨cb, 2, none⟩ = some (.int .i64 (q : Int)) := hb2.cell rfl
    have hcb3 : (w1.setCell ⟨r, 5, none⟩ (.slice (some ⟨qb, qo + 4, none⟩) n (c - 1))).cell? ⟨cb, 3, none⟩ = some (.int .u64 0) := hb2.cell rfl
    have hcr : (w1.setCell ⟨r, 5, none⟩ (.slice (some ⟨qb, qo + 4, none⟩) n (c - 1))).cell? ⟨r, 0, none⟩ = some (.pointer (some ⟨d, 0, none⟩)) := hk2.cell rfl
    have hcb : cb ≠ b := hb1.tag.ne (HBT.out.nw hn1) (by decide)
    have hrb : r ≠ b := HND.out.2.symm
    clear hb1 hb2 hk2 HK1 hc5 hf5
    generalize w1.setCell ⟨r, 5, none⟩ (.slice (some ⟨qb, qo + 4, none⟩) n (c - 1)) = w2 at *
    have HC := Lib.hid (HCALL.out w2.drew (HU2.out.nw Nw.refl.drew))
    have HK9 : Hid (∀ W', Up b w2.drew W' → W'.cell? ⟨r, 0, none⟩ = some (.pointer (some ⟨d, 0, none⟩)) ∧ W'.cell? ⟨cb, 2, none⟩ = some (.int .i64 (q : Int))) := fun W' u => ⟨u.cell hcr hrb, u.cell hcb2 hcb⟩
    go_wp2_with fail
    go_region_held3 (fun w' => w'.cell? ⟨r, 0, none⟩ = some (.pointer (some ⟨d, 0, none⟩)) ∧ w'.cell? ⟨cb, 2, none⟩ = some (.int .i64 (q : Int)))
      (first | (exact ⟨hcr, hcb2⟩) | (exact HK9.out _ u4))
      ((first | (go_at_call 75; (with_reducible refine HC.out.mono ?_); rintro e w4 ⟨⟨u, rfl⟩, h4, u4⟩)))
    have hq0 := u4.cell (a := w2.drew) hcb0 hcb
    go_wp2_with fail
    go_ret2
    obtain ⟨e1, e2, e3⟩ := HR2.out w4 ((Up.of_nw (t := b) Nw.refl.drew).trans u4)
    exact ⟨rfl, _, e1, by rw [HOP.out]; exact h4, e2, e3⟩
set_option maxRecDepth 100000 in
set_option maxHeartbeats 8000000 in
theorem rstep_fence (r d b N : Nat) (g : G) (k : Nat) (L : List St) (a : Option Addr) (hL : L.length ≤ 90000) (p : Int) (f : Nat → Wd) (hok : okOp N .fence) (w : World) (hD : RevAt w d b N f) (h : RRunAt w r d g k (⟨p, .fence⟩ :: L) a) :
    Calls Tryz.prog 23 #[.pointer (some ⟨r, 0, none⟩)] w (RStepG w r d b N g k a ⟨p, .fence⟩ L (doOpR .fence f)) := by
  obtain ⟨qb, qo, c, rfl, hk, hle, hq, hp⟩ := h.first
  clear h
  have HOP : Hid (doOpR .fence f = fun k => fenceW (f k)) := rfl
  have p0 : w.cell? ⟨qb, qo, none⟩ = some (.int .i64 p) := hp 0 _ rfl
  have p1 : w.cell? ⟨qb, qo + 1, none⟩ = some (.int .i64 2) := hp 1 _ rfl
  have p2 : w.cell? ⟨qb, qo + 2, none⟩ = some (.int .i64 0) := hp 2 _ rfl
  have p3 : w.cell? ⟨qb, qo + 3, none⟩ = some (.int .u64 0) := hp 3 _ rfl
  have hDk := hD.k
  have hbT := hD.a.ty
  have hrT := hk.tag
  have HND : Hid (d ≠ r ∧ b ≠ r) := ⟨hDk.tag.ne hrT (by decide), hbT.ne hrT (by decide)⟩
  have HRUN := Lib.hid (fun (w1 w2 w3 : World) (a' : Option Addr) (c' : Nat) => rstep_run (w1 := w1) (w2 := w2) (w3 := w3) (a' := a') (c' := c') hD hk hq hle)
  have hc5 : w.cell? ⟨r, 5, none⟩ = some (.slice (some ⟨qb, qo, none⟩) (L.length + 1) c) := hk.cell rfl
  have hf5 := hk.frozen 5
  have HDEV : Hid (∀ W, UpO (· = r) w W → RevAt W d b N f) := fun W u => hD.upo u HND.out.1 HND.out.2
  have HCALL : Hid (∀ W, UpO (· = r) w W → Calls Tryz.prog 76 #[.pointer (some ⟨d, 0, none⟩)] W (fun e w' => (∃ u, e = .returned u) ∧ RevAt w' d b N ((fun k => fenceW (f k))) ∧ Up b W w')) := fun W u => rfence_any d b N f W (HDEV.out W u)
  have HK := Lib.hid hk
  have HBT := Lib.hid hbT
  clear hD hk hq hDk hbT hrT hok hp
  generalize hn : L.length = n at *
  obtain rfl | hc1 : c = 1 ∨ 1 < c := by omega
  · obtain rfl : n = 0 := by omega
    go_enter Tryz.func23, Tryz.ntmps23
    go_upto_region 4 with fail
    have hb1 := Blk.new w #[.int .i64 p, .int .i64 2, .int .i64 0, .int .u64 0] 115
    have hn1 := (Nw.refl (w := w)).alloc (.cells #[.int .i64 p, .int .i64 2, .int .i64 0, .int .u64 0] 115)
    have HNE : Hid (r ≠ w.heap.size) := Nat.ne_of_lt HK.out.lt
    generalize w.alloc (.cells #[.int .i64 p, .int .i64 2, .int .i64 0, .int .u64 0] 115) = w1 at *
    have HK1 := Lib.hid (HK.out.nw hn1)
    clear hc5 hf5 p0 p1 p2 p3
    generalize w.heap.size = cb at hb1 HNE ⊢
    have hc5 : w1.cell? ⟨r, 5, none⟩ = some (.slice (some ⟨qb, qo, none⟩) (0 + 1) 1) := HK1.out.cell rfl
    have hf5 := HK1.out.frozen 5
    go_upto_region 5 with fail
    have HU2 := Lib.hid (UpO.pre hn1 ((UpO.refl (· = r) w1).set (t := r) rfl 5 (.slice (some ⟨qb, qo, none⟩) 0 0)))
    have hb2 := hb1.far r 5 (.slice (some ⟨qb, qo, none⟩) 0 0) (Ne.symm HNE.out)
    have hk2 := HK1.out.set 5 (.slice (some ⟨qb, qo, none⟩) 0 0)
    have HR2 := Lib.hid (fun (w3 : World) (u : Up b _ w3) => HRUN.out w1 _ w3 (some ⟨qb, qo, none⟩) 0 hn1 rfl (.inl ⟨rfl, rfl, rfl⟩) u)
    have hcb0 : (w1.setCell ⟨r, 5, none⟩ (.slice (some ⟨qb, qo, none⟩) 0 0)).cell? ⟨cb, 0, none⟩ = some (.int .i64 p) := hb2.cell rfl
    have hcb1 : (w1.setCell ⟨r, 5, none⟩ (.slice (some ⟨qb, qo, none⟩) 0 0)).cell? ⟨cb, 1, none⟩ = some (.int .i64 2) := hb2.cell rfl
    have hcb2 : (w1.setCell ⟨r, 5, none⟩ (.slice (some ⟨qb, qo, none⟩) 0 0)).cell? ⟨cb, 2, none⟩ = some (.int .i64 0) := hb2.cell rfl
    have hcb3 : (w1.setCell ⟨r, 5, none⟩ (.slice (some ⟨qb, qo, none⟩) 0 0)).cell? ⟨cb, 3, none⟩ = some (.int .u64 0) := hb2.cell rfl
    have hcr : (w1.setCell ⟨r, 5, none⟩ (.slice (some ⟨qb, qo, none⟩) 0 0)).cell? ⟨r, 0, none⟩ = some (.pointer (some ⟨d, 0, none⟩)) := hk2.cell rfl
    have hcb : cb ≠ b := hb1.tag.ne (HBT.out.nw hn1) (by decide)
    have hrb : r ≠ b := HND.out.2.symm
    clear hb1 hb2 hk2 HK1 hc5 hf5
    generalize w1.setCell ⟨r, 5, none⟩ (.slice (some ⟨qb, qo, none⟩) 0 0) = w2 at *
    have HC := Lib.hid (HCALL.out w2 HU2.out)
    go_wp2_with fail
    (with_reducible refine HC.out.mono ?_)
    rintro e w4 ⟨⟨u, rfl⟩, h4, u4⟩
    have hq0 := u4.cell hcb0 hcb
    go_wp2_with fail
    go_ret2
    obtain ⟨e1, e2, e3⟩ := HR2.out w4 u4
    exact ⟨rfl, _, e1, by rw [HOP.out]; exact h4, e2, e3⟩
  · have hni : (n : Int) ≤ 90000 := by omega
    have hci : (1 : Int) < (c : Int) := by omega
    go_enter Tryz.func23, Tryz.ntmps23
    go_upto_region 4 with fail
    have hb1 := Blk.new w #[.int .i64 p, .int .i64 2, .int .i64 0, .int .u64 0] 115
    have hn1 := (Nw.refl (w := w)).alloc (.cells #[.int .i64 p, .int .i64 2, .int .i64 0, .int .u64 0] 115)
    have HNE : Hid (r ≠ w.heap.size) := Nat.ne_of_lt HK.out.lt
    generalize w.alloc (.cells #[.int .i64 p, .int .i64 2, .int .i64 0, .int .u64 0] 115) = w1 at *
    have HK1 := Lib.hid (HK.out.nw hn1)
    clear hc5 hf5 p0 p1 p2 p3
    generalize w.heap.size = cb at hb1 HNE ⊢
    have hc5 : w1.cell? ⟨r, 5, none⟩ = some (.slice (some ⟨qb, qo, none⟩) (n + 1) c) := HK1.out.cell rfl
    have hf5 := HK1.out.frozen 5
    go_upto_region 5 with fail
    have HU2 := Lib.hid (UpO.pre hn1 ((UpO.refl (· = r) w1).set (t := r) rfl 5 (.slice (some ⟨qb, qo + 4, none⟩) n (c - 1))))
    have hb2 := hb1.far r 5 (.slice (some ⟨qb, qo + 4, none⟩) n (c - 1)) (Ne.symm HNE.out)
    have hk2 := HK1.out.set 5 (.slice (some ⟨qb, qo + 4, none⟩) n (c - 1))
    have HR2 := Lib.hid (fun (w3 : World) (u : Up b _ w3) => HRUN.out w1 _ w3 (some ⟨qb, qo + 4, none⟩) (c - 1) hn1 rfl (.inr ⟨hc1, rfl, rfl⟩) u)
    have hcb0 : (w1.setCell ⟨r, 5, none⟩ (.slice (some ⟨qb, qo + 4, none⟩) n (c - 1))).cell? ⟨cb, 0, none⟩ = some (.int .i64 p) := hb2.cell rfl
    have hcb1 : (w1.setCell ⟨r, 5, none⟩ (.slice (some ⟨qb, qo + 4, none⟩) n (c - 1))).cell? ⟨cb, 1, none⟩ = some (.int .i64 2) := hb2.cell rfl
    have hcb2 : (w1.setCell ⟨r, 5, none⟩ (.slice (some ⟨qb, qo + 4, none⟩) n (c - 1))).cell? ⟨cb, 2, none⟩ = some (.int .i64 0) := hb2.cell rfl
    have hcb3 : (w1.setCell ⟨r, 5, none⟩ (.slice (some ⟨qb, qo + 4, none⟩) n (c - 1))).cell? ⟨cb, 3, none⟩ = some (.int .u64 0) := hb2.cell rfl
    have hcr : (w1.setCell ⟨r, 5, none⟩ (.slice (some ⟨qb, qo + 4, none⟩) n (c - 1))).cell? ⟨r, 0, none⟩ = some (.pointer (some ⟨d, 0, none⟩)) := hk2.cell rfl
    have hcb : cb ≠ b := hb1.tag.ne (HBT.out.nw hn1) (by decide)
    have hrb : r ≠ b := HND.out.2.symm
    clear hb1 hb2 hk2 HK1 hc5 hf5
    generalize w1.setCell ⟨r, 5, none⟩ (.slice (some ⟨qb, qo + 4, none⟩) n (c - 1)) = w2 at *
    have HC := Lib.hid (HCALL.out w2 HU2.out)
    go_wp2_with fail
    (with_reducible refine HC.out.mono ?_)
    rintro e w4 ⟨⟨u, rfl⟩, h4, u4⟩
    have hq0 := u4.cell hcb0 hcb
    go_wp2_with fail
    go_ret2
    obtain ⟨e1, e2, e3⟩ := HR2.out w4 u4
    exact ⟨rfl, _, e1, by rw [HOP.out]; exact h4, e2, e3⟩
theorem rstep_any (r d b N : Nat) (g : G) (k : Nat) (s : St) (L : List St) (a : Option Addr) (hL : L.length ≤ 90000) (f : Nat → Wd) (hok : okOp N s.o) (w : World) (hD : RevAt w d b N f) (h : RRunAt w r d g k (s :: L) a) :
    Calls Tryz.prog 23 #[.pointer (some ⟨r, 0, none⟩)] w (RStepG w r d b N g k a s L (doOpR s.o f)) := by
  obtain ⟨p, o⟩ := s
  cases o with
  | store x y => exact rstep_store r d b N g k L a hL p x y f hok w hD h
  | flush x => exact rstep_flush r d b N g k L a hL p x f hok w hD h
  | fence => exact rstep_fence r d b N g k L a hL p f hok w hD h
end Go.Proofs.YtkopfnldgnkkoaaGreat
