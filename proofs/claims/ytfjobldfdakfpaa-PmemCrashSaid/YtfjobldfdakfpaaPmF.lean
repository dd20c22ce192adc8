/-
  DEVICES: Crash.
-/
import Derived.Test.YtfjobldfdakfpaaPmE
namespace Go.Proofs.Ytfjobldfdakfpaa
open Go.RowKit Go.Shelf
set_option linter.unusedVariables false
attribute [local go_sem] Oper.semAt_some

def pickV (p : Int) (x : Wd) : Int := if p = 2 then x.seen else if p = 1 ∧ x.flushed = true then x.value else x.sure
def crashP (p : Int) (x : Wd) : Wd := { settleW x (pickV p x) with seen := pickV p x }
def crashW (zs : List Int) (i : Nat) (x : Wd) : Wd := crashP ((zs[i]?.getD 0) % 3) x
/-- Nothing but two blocks, and new memory. -/
structure Up2 (t s : Nat) (w w' : World) : Prop where
  os : w'.os = w.os
  tape : w'.tape = w.tape
  output : w'.output = w.output
  size : w.heap.size ≤ w'.heap.size
  block : ∀ k, k < w.heap.size → k ≠ t → k ≠ s → w'.heap[k]? = w.heap[k]?
theorem Up2.refl (t s : Nat) (w : World) : Up2 t s w w := ⟨rfl, rfl, rfl, Nat.le_refl _, fun _ _ _ _ => rfl⟩
theorem Up2.up {t s : Nat} {a b c : World} (h : Up2 t s a b) (k : Up t b c) : Up2 t s a c :=
  ⟨k.os.trans h.os, k.tape.trans h.tape, k.output.trans h.output, Nat.le_trans h.size k.size, fun i hi h1 h2 => (k.block i (Nat.lt_of_lt_of_le hi h.size) h1).trans (h.block i hi h1 h2)⟩
theorem Up2.up' {t s : Nat} {a b c : World} (h : Up2 t s a b) (k : Up s b c) : Up2 t s a c :=
  ⟨k.os.trans h.os, k.tape.trans h.tape, k.output.trans h.output, Nat.le_trans h.size k.size, fun i hi h1 h2 => (k.block i (Nat.lt_of_lt_of_le hi h.size) h2).trans (h.block i hi h1 h2)⟩
theorem Up2.far {t s B r : Nat} {a b c : World} (h : Up2 t s a b) (k : Up r b c) (hr : a.heap.size ≤ r) : Up2 t s a c :=
  ⟨k.os.trans h.os, k.tape.trans h.tape, k.output.trans h.output, Nat.le_trans h.size k.size, fun i hi h1 h2 => (k.block i (Nat.lt_of_lt_of_le hi h.size) (by omega)).trans (h.block i hi h1 h2)⟩
theorem Up2.cell {t s : Nat} {a b : World} (h : Up2 t s a b) {p : Addr} {v : Value} (hc : a.cell? p = some v) (h1 : p.block ≠ t) (h2 : p.block ≠ s) : b.cell? p = some v :=
  (World.cell?_of_block (w := a) (h.block p.block (cell_lt hc).1 h1 h2)).trans hc
theorem Up2.keepsFrom {t s B : Nat} {W W' : World} (h : Up2 t s W W') (ht : t < B) (hs : s < B) : KeepsFrom B W W' :=
  ⟨h.size, fun k o hB hk ho => (h.block k (Array.getElem?_eq_some_iff.1 hk).1 (by omega) (by omega)).trans hk⟩
theorem ints_up {m t : Nat} {a b : World} (h : Up t a b) {k : IntKind} {p : Option Addr} {zs : List Int} (ht : m ≤ t) (hI : Ints m k a p zs) : Ints m k b p zs := by
  rcases hI with rfl | ⟨b', off, e, hb, hc⟩
  · exact .inl rfl
  · exact .inr ⟨b', off, e, hb, fun j hj => h.cell (hc j hj) (by show b' ≠ t; omega)⟩
theorem wpIn_merge {F : Fence} {n : Nat} {P : Program} {c : Code} {a : Act} {W : World} {Q : Exit → Act → World → Prop} (W1 : World) (g : Array Value → Array Value)
    (h : c.wpIn F n P (fun e a' w' => e = .normal ∧ a' = { tmps := g a.tmps, defers := a.defers } ∧ w' = W1) a W) (k : Q .normal { tmps := g a.tmps, defers := a.defers } W1) : c.wpIn F n P Q a W :=
  wpIn_mono h (by rintro _ _ _ ⟨rfl, rfl, rfl⟩; exact k)
theorem ints_upx {m t : Nat} {a b : World} (h : Up t a b) {k : IntKind} {p : Option Addr} {zs : List Int} (hq : ∀ p', p = some p' → p'.block ≠ t) (hI : Ints m k a p zs) : Ints m k b p zs := by
  rcases hI with rfl | ⟨b', off, e, hb, hc⟩
  · exact .inl rfl
  · exact .inr ⟨b', off, e, hb, fun j hj => h.cell (hc j hj) (hq ⟨b', off, none⟩ e)⟩
theorem ints_upy {m t : Nat} {a b : World} (h : Up t a b) {k : IntKind} {p : Option Addr} {zs : List Int} (hq : zs ≠ [] → ∀ p', p = some p' → p'.block ≠ t) (hI : Ints m k a p zs) : Ints m k b p zs := by
  by_cases hz : zs = []
  · exact .inl hz
  · exact ints_upx h (hq hz) hI
/-- What is kept while a crash goes through loose words. -/
def CrashI (W0 : World) (B d b n₀ : Nat) (zs : List Int) (f : Nat → Wd) (pre : List (Fin 16)) (W : World) : Prop :=
  (∃ (a' : Option Addr) (c' : Nat), Boxed W B 39 (.slice a' (zs.drop pre.length).length c') ∧ (zs.drop pre.length).length ≤ c' ∧ (zs.drop pre.length ≠ [] → ∀ p, a' = some p → p.block ≠ b) ∧ Ints n₀ .u8 W a' (zs.drop pre.length)) ∧ DevAt W d b (gone (crashW zs) 0 0 pre f) ∧ Up2 b B W0 W
theorem crashI_own (W0 : World) (B d b n₀ : Nat) (zs : List Int) (f : Nat → Wd) (hd : d < W0.heap.size) (hb : b < W0.heap.size) (hB : B < W0.heap.size) (hn : n₀ ≤ W0.heap.size) : OwnFrom W0.heap.size (CrashI W0 B d b n₀ zs f) := by
  rintro pre W W' row ⟨⟨a', c', h0, hl, hq, hI⟩, h1, h2⟩ hg hr
  have hf := row_far h2.size hr
  have hu := up_of_grown hg
  exact ⟨⟨a', c', (hu.block B (by have := h2.size; omega) (by omega)).trans h0, hl, hq, ints_up hu (by omega) hI⟩, h1.up hu (by omega) (by omega), h2.far (B := 0) hu hf⟩
set_option maxRecDepth 100000 in
set_option maxHeartbeats 1500000 in
theorem crash_gen (d b : Nat) (f : Nat → Wd) (n₀ : Nat) (a : Option Addr) (len cap : Nat) (zs : List Int) (hl : zs.length = len) (hlc : len ≤ cap) (hreach : len ≤ 140737488355000) (hz : ∀ x ∈ zs, 0 ≤ x ∧ x ≤ 255) (w : World) (hnw : n₀ ≤ w.heap.size) (hab : zs ≠ [] → ∀ p, a = some p → p.block ≠ b) (hI0 : Ints n₀ .u8 w a zs) (h : DevAt w d b f) :
    Calls Try.prog 15 #[.pointer (some ⟨d, 0, none⟩), .slice a len cap] w (DevG w d b (gone (crashW zs) 0 0 (lsL f) f)) := by
  subst hl
  have hdl := (cell_lt h.s).1
  have hbl := (cell_lt (h.a.c0 0 (by omega))).1
  dsimp only at hdl hbl
  have hN00 : Nw w (w.alloc (.cells #[.slice a zs.length cap] 39)) := Nw.refl.alloc _
  have HD := Lib.hid (h.nw hN00)
  have hs := (h.nw hN00).s
  have HI0 := Lib.hid hI0
  have HZ := Lib.hid hz
  clear h hI0 hz
  refine (callsIn_wide (n := 9)).1 ?_
  refine callsIn_of_wp_marks Try.func15 rfl trivial ?_ rfl
  simp only [Try.ntmps15, List.size_toArray, List.length_cons, List.length_nil, Nat.reduceAdd, Nat.reduceSub, Array.replicate_succ, Array.replicate_zero, List.push_toArray, List.append_toArray, List.nil_append, List.cons_append]
  gi_wp2_with (refine ⟨trivial, ?_⟩; gi_at_call 22; refine (loose_in Fence.wide _ trivial rfl _ _ _ _).mono ?_; rintro e w' ⟨rfl, rfl⟩)
  have hB1 : ((w.alloc (.cells #[.slice a zs.length cap] 39)).alloc (.cells #[.slice (some ⟨b, 0, none⟩) 16 16] 53)).cell? ⟨w.heap.size + 1, 0, none⟩ = some (.slice (some ⟨b, 0 * 6, none⟩) 16 16) := by
    have := World.cell?_alloc_new (w.alloc (.cells #[.slice a zs.length cap] 39)) #[.slice (some ⟨b, 0, none⟩) 16 16] 53 0
    rw [World.size_alloc] at this
    rw [this]; simp
  have hN0 : Nw w ((w.alloc (.cells #[.slice a zs.length cap] 39)).alloc (.cells #[.slice (some ⟨b, 0, none⟩) 16 16] 53)) := hN00.alloc _
  have hs0 : ((w.alloc (.cells #[.slice a zs.length cap] 39)).alloc (.cells #[.slice (some ⟨b, 0, none⟩) 16 16] 53)).heap.size = w.heap.size + 2 := by simp
  have hD0 := HD.out.nw (Nw.refl.alloc (.cells #[.slice (some ⟨b, 0, none⟩) 16 16] 53))
  have hb0 : Boxed ((w.alloc (.cells #[.slice a zs.length cap] 39)).alloc (.cells #[.slice (some ⟨b, 0, none⟩) 16 16] 53)) w.heap.size 39 (.slice a zs.length cap) := (Boxed.new w _ _).alloc _
  have hI1 := ints_up (Up.of_nw (t := w.heap.size + n₀) hN0) (by omega) HI0.out
  generalize hW0 : (w.alloc (.cells #[.slice a zs.length cap] 39)).alloc (.cells #[.slice (some ⟨b, 0, none⟩) 16 16] 53) = W0 at *
  refine wpIn_range_K rfl (by omega) (gf := 31) (lb := #[.pointer (some ⟨w.heap.size + 1, 0, none⟩)]) rfl trivial (enters_of Try.func31 (by kernel_rfl) rfl)
    (fun _ => rfl) (CrashI W0 w.heap.size d b n₀ zs f) (fun _ _ _ => False)
    (loose_stops Fence.wide _ trivial rfl (by omega) (w.heap.size + 1) b 0 16 16 (by omega) (fun k => (f (0 + k)).loose) (CrashI W0 w.heap.size d b n₀ zs f)
      (fun pre W hi => hi.2.2.cell hB1 (by dsimp only; omega) (by dsimp only; omega))
      (fun pre W k hk hi hp => by
        have := hi.2.1.a.c2 (0 + k) (by omega)
        rw [gone_other _ _ _ _ (fun x hx => by have := hp x hx; omega)] at this
        rw [← this]; congr 2; omega) W0)
    (crashI_own W0 _ d b n₀ zs f (by omega) (by omega) (by omega) (by omega)) (fun _ _ _ _ _ hs _ _ => hs) ⟨⟨a, cap, hb0, hlc, hab, hI1⟩, hD0, .refl _ _ _⟩
    (fun x t => t.setIfInBounds 5 (.pointer (some ⟨b, 0 * 6 + x.1 * 6, none⟩)))
    ?assign ?body ?done ?stop
  case assign =>
    rintro l pre x W K hi hK
    obtain ⟨xx, hxx⟩ : ∃ xx, 0 * 6 + x.1 * 6 = xx := ⟨_, rfl⟩
    unfold wE at hK ⊢
    rw [hxx] at hK ⊢
    simp [Array.zip, go_sem] at hK ⊢
    gi_wp2
    exact hK
  case body =>
    rintro l pre x W hl _ ⟨⟨a', c', hbx, hlc', hab', hIW⟩, hDW, hUW⟩ _
    have hx16 := x.2
    have HGN := Lib.hid (gone_snoc (crashW zs) 0 pre x 0 f)
    have HLN : Hid ((zs.drop (pre ++ [x]).length) = (zs.drop pre.length).drop 1) := by rw [List.length_append, List.drop_drop]; rfl
    have HCR : Hid (∀ y, crashW zs (0 + pre.length) y = crashP (((zs.drop pre.length)[0]?.getD 0) % 3) y) := fun y => by rw [crashW, List.getElem?_drop, Nat.add_comm]
    have HZD : Hid (∀ y ∈ zs.drop pre.length, 0 ≤ y ∧ y ≤ 255) := fun y hy => HZ.out y (List.mem_of_mem_drop hy)
    have hLE : (zs.drop pre.length).length ≤ zs.length := by rw [List.length_drop]; omega
    generalize hg : gone (crashW zs) 0 0 pre f = g at hDW HGN
    generalize hys : zs.drop pre.length = ys at *
    have cB := hbx.cell
    have fB := hbx.frozen
    have hA := hDW.a
    have hsW := hUW.size
    have HBX := Lib.hid hbx
    have HDW := Lib.hid hDW
    have HUW := Lib.hid hUW
    clear hbx hDW hUW
    unfold wE
    simp only [Nat.zero_mul, Nat.zero_add] at *
    have c0 := hA.c0 x.1 hx16
    have c1 := hA.c1 x.1 hx16
    have c3 := hA.c3 x.1 hx16
    have c5 := hA.c5 x.1 hx16
    have HS := Lib.hid (fun v W' (h : WAt W' b 16 g) => settle_any b 16 g x.1 hx16 v W' h)
    have HA := Lib.hid hA
    clear hA
    simp [Array.zip, go_sem]
    -- how a round ends
    have FIN : Hid (∀ (p : Int) (W1 W2 W' : World) (a2 : Option Addr) (c2 : Nat), crashW zs pre.length (g x.1) = crashP p (g x.1) → Up w.heap.size W W1 → Boxed W1 w.heap.size 39 (.slice a2 (ys.drop 1).length c2) → (ys.drop 1).length ≤ c2 → (ys.drop 1 ≠ [] → ∀ p, a2 = some p → p.block ≠ b) → Ints n₀ .u8 W1 a2 (ys.drop 1) →
        WAt W2 b 16 (upd g x.1 (settleW (g x.1) (pickV p (g x.1)))) → Up b W1 W2 → W' = W2.setCell ⟨b, x.1 * 6 + 1, none⟩ (.int .u64 (pickV p (g x.1))) → postJ W0.heap.size (CrashI W0 w.heap.size d b n₀ zs f) (fun _ _ _ => False) (pre ++ [x]) W .normal { tmps := #[], defers := [] } W') := by
      intro p W1 W2 W' a2 c2 hp hu1 hb1 hl1 hq2 hi1 hA2 hu2 rfl
      have hu3 : Up b W1 (W2.setCell ⟨b, x.1 * 6 + 1, none⟩ (.int .u64 (pickV p (g x.1)))) := hu2.set _ _
      have hA3 := hA2.set1 x.1 hx16 (pickV p (g x.1))
      have hU3 : Up2 b w.heap.size W (W2.setCell ⟨b, x.1 * 6 + 1, none⟩ (.int .u64 (pickV p (g x.1)))) := ((Up2.refl _ _ _).up' hu1).up hu3
      refine ⟨hU3.keepsFrom (by omega) (by omega), ⟨a2, c2, ?_, by rw [HLN.out]; exact hl1, by rw [HLN.out]; exact hq2, by rw [HLN.out]; exact ints_upy hu3 hq2 hi1⟩, ?_, ?_⟩
      · rw [HLN.out]
        have : w.heap.size < W1.heap.size := (Array.getElem?_eq_some_iff.1 hb1).1
        exact (hu3.block _ this (by omega)).trans hb1
      · rw [HGN.out, hp]
        refine ⟨hU3.cell HDW.out.s HDW.out.ne (by dsimp only; omega), ?_, HDW.out.ne⟩
        simpa only [upd_upd, upd_same, crashP] using hA3
      · exact (HUW.out.up' hu1).up hu3
    cases ys with
    | nil =>
      have hp0 : ((([] : List Int)[0]?).getD 0) % 3 = 0 := rfl
      gi_wp2_with (refine ⟨trivial, ?_⟩; gi_at_call 23; refine (CallsIn.inRound l (callsIn_wide.2 (HS.out _ _ HA.out))).mono ?_; rintro e w' ⟨⟨u, rfl⟩, h1, h2⟩; have e0 := h1.c0 x.1 hx16; have e1 := h1.c1 x.1 hx16; have r1 := h1.fr (x.1 * 6 + 1); rw [upd_same] at e0; have e0' : w'.cell? ⟨b, x.1 * 6, none⟩ = some (.int .u64 (g x.1).sure) := e0; have H1 := Lib.hid h1; have H2 := Lib.hid h2; clear h1 h2 e0)
      exact FIN.out 0 W _ _ a' c' (HCR.out _) (Up.refl _ _) HBX.out (Nat.zero_le _) hab' (.inl rfl) H1.out H2.out rfl
    | cons y yr =>
      rcases hIW with hIW | ⟨gb, go, rfl, hgb, hcs⟩
      · cases hIW
      have cy := hcs 0 (by simp)
      obtain ⟨hy0, hy1⟩ := HZD.out y List.mem_cons_self
      simp only [Nat.add_zero, List.length_cons] at cy cB hlc' hLE
      have hIy : Ints n₀ .u8 W (some ⟨gb, go + 1, none⟩) yr := .inr ⟨gb, go + 1, rfl, hgb, fun j hj => by have := hcs (j + 1) (by simpa using hj); rw [show go + (j + 1) = go + 1 + j by omega] at this; simpa using this⟩
      have HIY := Lib.hid hIy
      clear hcs hIy
      have hq1 : (1 : Int) ≤ ((yr.length + 1 : Nat) : Int) := by omega
      have hq2 : (1 : Int) ≤ (yr.length : Int) + 1 := by omega
      have hq3 : 1 ≤ yr.length + 1 := by omega
      have hq4 : ((yr.length + 1 : Nat) : Int) ≤ (c' : Int) := by omega
      have hq5 : (yr.length : Int) + 1 ≤ (c' : Int) := by omega
      have hq6 : (0 : Int) ≤ (yr.length : Int) := by omega
      have hq7 : ((yr.length : Int) + 1).toNat = yr.length + 1 := by omega
      have HCL := Lib.hid hlc'
      have HAB := Lib.hid hab'
      clear hab'
      obtain rfl | hc1 : c' = 1 ∨ 1 < c' := by omega
      · obtain rfl : yr = [] := List.length_eq_zero_iff.1 (by omega)
        have hfol : Try.prog.follows .mixedOrders = true := by kernel_rfl
        gi_wp2
        refine wpIn_merge (W.setCell ⟨w.heap.size, 0, none⟩ (.slice (some ⟨gb, go, none⟩) 0 (0))).drew (fun t => (((((((t.setIfInBounds 18 (.slice (some ⟨gb, go, none⟩) (1) (1))).setIfInBounds 19 (.pointer (some ⟨gb, go, none⟩))).setIfInBounds 20 (.int .u8 y)).setIfInBounds 21 (.int .u8 (y.tmod 3))).setIfInBounds 22 (.slice (some ⟨gb, go, none⟩) (1) (1))).setIfInBounds 23 (.slice (some ⟨gb, go, none⟩) 0 (0))).setIfInBounds 6 (.int .u8 (y.tmod 3)))) ?_ ?_
        · dsimp only
          simp only [List.setIfInBounds_toArray, List.set_cons_zero, List.set_cons_succ]
          gi_region_with_o (fail)
          all_goals first | (with_reducible exact ⟨rfl, rfl, rfl⟩) | (simp only [if_neg hc2]; with_reducible exact ⟨rfl, rfl, rfl⟩) | (simp only [if_neg hc2, and_true, true_and])
        simp only [List.setIfInBounds_toArray, List.set_cons_zero, List.set_cons_succ]
        have hb1 : Boxed (W.setCell ⟨w.heap.size, 0, none⟩ (.slice (some ⟨gb, go, none⟩) 0 (0))).drew w.heap.size 39 (.slice (some ⟨gb, go, none⟩) 0 (0)) := HBX.out.set _
        have hu1 : Up w.heap.size W (W.setCell ⟨w.heap.size, 0, none⟩ (.slice (some ⟨gb, go, none⟩) 0 (0))).drew := ((Up.refl _ _).set 0 _).nw Nw.refl.drew
        have hA1 := HA.out.up hu1 (by omega) (by omega)
        generalize (W.setCell ⟨w.heap.size, 0, none⟩ (.slice (some ⟨gb, go, none⟩) 0 (0))).drew = W1 at *
        have c0 := hA1.c0 x.1 hx16
        have c1 := hA1.c1 x.1 hx16
        have c3 := hA1.c3 x.1 hx16
        have c5 := hA1.c5 x.1 hx16
        have HA1 := Lib.hid hA1
        have HB1 := Lib.hid hb1
        have HU1 := Lib.hid hu1
        have HY3 : Hid (y % 3 = y.tmod 3) := (Int.tmod_eq_emod_of_nonneg hy0).symm
        have hyr : 0 ≤ y.tmod 3 ∧ y.tmod 3 < 3 := by rw [← HY3.out]; omega
        clear hA1 hb1 hu1
        generalize y.tmod 3 = p at *
        obtain rfl | rfl | rfl : p = 2 ∨ p = 1 ∨ p = 0 := by omega
        · gi_wp2_with (refine ⟨trivial, ?_⟩; gi_at_call 23; refine (CallsIn.inRound l (callsIn_wide.2 (HS.out _ _ HA1.out))).mono ?_; rintro e w' ⟨⟨u, rfl⟩, h1, h2⟩; have e0 := h1.c0 x.1 hx16; have e1 := h1.c1 x.1 hx16; have r1 := h1.fr (x.1 * 6 + 1); rw [upd_same] at e0; have e0' : w'.cell? ⟨b, x.1 * 6, none⟩ = some (.int .u64 (g x.1).seen) := e0; have H1 := Lib.hid h1; have H2 := Lib.hid h2; clear h1 h2 e0)
          have hv : pickV 2 (g x.1) = (g x.1).seen := rfl
          have F := FIN.out 2 W1 w' (w'.setCell ⟨b, x.1 * 6 + 1, none⟩ (.int .u64 (pickV 2 (g x.1)))) (some ⟨gb, go, none⟩) (0) (by rw [HCR.out]; simp only [List.getElem?_cons_zero, Option.getD_some]; rw [HY3.out]) HU1.out HB1.out (by have := HCL.out; simp only [List.drop_one, List.tail_cons] at this ⊢; omega) (fun _ p hp => by cases hp; exact HAB.out (by simp) ⟨gb, go, none⟩ rfl) (.inl rfl)
          rw [hv] at F
          exact F H1.out H2.out rfl
        · cases hfl : (g x.1).flushed
          · rw [hfl] at c3
            gi_wp2_with (refine ⟨trivial, ?_⟩; gi_at_call 23; refine (CallsIn.inRound l (callsIn_wide.2 (HS.out _ _ HA1.out))).mono ?_; rintro e w' ⟨⟨u, rfl⟩, h1, h2⟩; have e0 := h1.c0 x.1 hx16; have e1 := h1.c1 x.1 hx16; have r1 := h1.fr (x.1 * 6 + 1); rw [upd_same] at e0; have e0' : w'.cell? ⟨b, x.1 * 6, none⟩ = some (.int .u64 (g x.1).sure) := e0; have H1 := Lib.hid h1; have H2 := Lib.hid h2; clear h1 h2 e0)
            have hv : pickV 1 (g x.1) = (g x.1).sure := (by simp [pickV, hfl])
            have F := FIN.out 1 W1 w' (w'.setCell ⟨b, x.1 * 6 + 1, none⟩ (.int .u64 (pickV 1 (g x.1)))) (some ⟨gb, go, none⟩) (0) (by rw [HCR.out]; simp only [List.getElem?_cons_zero, Option.getD_some]; rw [HY3.out]) HU1.out HB1.out (by have := HCL.out; simp only [List.drop_one, List.tail_cons] at this ⊢; omega) (fun _ p hp => by cases hp; exact HAB.out (by simp) ⟨gb, go, none⟩ rfl) (.inl rfl)
            rw [hv] at F
            exact F H1.out H2.out rfl
          · rw [hfl] at c3
            gi_wp2_with (refine ⟨trivial, ?_⟩; gi_at_call 23; refine (CallsIn.inRound l (callsIn_wide.2 (HS.out _ _ HA1.out))).mono ?_; rintro e w' ⟨⟨u, rfl⟩, h1, h2⟩; have e0 := h1.c0 x.1 hx16; have e1 := h1.c1 x.1 hx16; have r1 := h1.fr (x.1 * 6 + 1); rw [upd_same] at e0; have e0' : w'.cell? ⟨b, x.1 * 6, none⟩ = some (.int .u64 (g x.1).value) := e0; have H1 := Lib.hid h1; have H2 := Lib.hid h2; clear h1 h2 e0)
            have hv : pickV 1 (g x.1) = (g x.1).value := (by simp [pickV, hfl])
            have F := FIN.out 1 W1 w' (w'.setCell ⟨b, x.1 * 6 + 1, none⟩ (.int .u64 (pickV 1 (g x.1)))) (some ⟨gb, go, none⟩) (0) (by rw [HCR.out]; simp only [List.getElem?_cons_zero, Option.getD_some]; rw [HY3.out]) HU1.out HB1.out (by have := HCL.out; simp only [List.drop_one, List.tail_cons] at this ⊢; omega) (fun _ p hp => by cases hp; exact HAB.out (by simp) ⟨gb, go, none⟩ rfl) (.inl rfl)
            rw [hv] at F
            exact F H1.out H2.out rfl
        · gi_wp2_with (refine ⟨trivial, ?_⟩; gi_at_call 23; refine (CallsIn.inRound l (callsIn_wide.2 (HS.out _ _ HA1.out))).mono ?_; rintro e w' ⟨⟨u, rfl⟩, h1, h2⟩; have e0 := h1.c0 x.1 hx16; have e1 := h1.c1 x.1 hx16; have r1 := h1.fr (x.1 * 6 + 1); rw [upd_same] at e0; have e0' : w'.cell? ⟨b, x.1 * 6, none⟩ = some (.int .u64 (g x.1).sure) := e0; have H1 := Lib.hid h1; have H2 := Lib.hid h2; clear h1 h2 e0)
          have hv : pickV 0 (g x.1) = (g x.1).sure := rfl
          have F := FIN.out 0 W1 w' (w'.setCell ⟨b, x.1 * 6 + 1, none⟩ (.int .u64 (pickV 0 (g x.1)))) (some ⟨gb, go, none⟩) (0) (by rw [HCR.out]; simp only [List.getElem?_cons_zero, Option.getD_some]; rw [HY3.out]) HU1.out HB1.out (by have := HCL.out; simp only [List.drop_one, List.tail_cons] at this ⊢; omega) (fun _ p hp => by cases hp; exact HAB.out (by simp) ⟨gb, go, none⟩ rfl) (.inl rfl)
          rw [hv] at F
          exact F H1.out H2.out rfl
      · have hc2 : ¬ c' = 1 := by omega
        have hfol : Try.prog.follows .mixedOrders = true := by kernel_rfl
        gi_wp2
        refine wpIn_merge (W.setCell ⟨w.heap.size, 0, none⟩ (.slice (some ⟨gb, go + 1, none⟩) yr.length (c' - 1))).drew (fun t => (((((((t.setIfInBounds 18 (.slice (some ⟨gb, go, none⟩) (yr.length + 1) (c'))).setIfInBounds 19 (.pointer (some ⟨gb, go, none⟩))).setIfInBounds 20 (.int .u8 y)).setIfInBounds 21 (.int .u8 (y.tmod 3))).setIfInBounds 22 (.slice (some ⟨gb, go, none⟩) (yr.length + 1) (c'))).setIfInBounds 23 (.slice (some ⟨gb, go + 1, none⟩) yr.length (c' - 1))).setIfInBounds 6 (.int .u8 (y.tmod 3)))) ?_ ?_
        · dsimp only
          simp only [List.setIfInBounds_toArray, List.set_cons_zero, List.set_cons_succ]
          gi_region_with_o (fail)
          all_goals first | (with_reducible exact ⟨rfl, rfl, rfl⟩) | (simp only [if_neg hc2]; with_reducible exact ⟨rfl, rfl, rfl⟩) | (simp only [if_neg hc2, and_true, true_and])
        simp only [List.setIfInBounds_toArray, List.set_cons_zero, List.set_cons_succ]
        have hb1 : Boxed (W.setCell ⟨w.heap.size, 0, none⟩ (.slice (some ⟨gb, go + 1, none⟩) yr.length (c' - 1))).drew w.heap.size 39 (.slice (some ⟨gb, go + 1, none⟩) yr.length (c' - 1)) := HBX.out.set _
        have hu1 : Up w.heap.size W (W.setCell ⟨w.heap.size, 0, none⟩ (.slice (some ⟨gb, go + 1, none⟩) yr.length (c' - 1))).drew := ((Up.refl _ _).set 0 _).nw Nw.refl.drew
        have hA1 := HA.out.up hu1 (by omega) (by omega)
        generalize (W.setCell ⟨w.heap.size, 0, none⟩ (.slice (some ⟨gb, go + 1, none⟩) yr.length (c' - 1))).drew = W1 at *
        have c0 := hA1.c0 x.1 hx16
        have c1 := hA1.c1 x.1 hx16
        have c3 := hA1.c3 x.1 hx16
        have c5 := hA1.c5 x.1 hx16
        have HA1 := Lib.hid hA1
        have HB1 := Lib.hid hb1
        have HU1 := Lib.hid hu1
        have HY3 : Hid (y % 3 = y.tmod 3) := (Int.tmod_eq_emod_of_nonneg hy0).symm
        have hyr : 0 ≤ y.tmod 3 ∧ y.tmod 3 < 3 := by rw [← HY3.out]; omega
        clear hA1 hb1 hu1
        generalize y.tmod 3 = p at *
        obtain rfl | rfl | rfl : p = 2 ∨ p = 1 ∨ p = 0 := by omega
        · gi_wp2_with (refine ⟨trivial, ?_⟩; gi_at_call 23; refine (CallsIn.inRound l (callsIn_wide.2 (HS.out _ _ HA1.out))).mono ?_; rintro e w' ⟨⟨u, rfl⟩, h1, h2⟩; have e0 := h1.c0 x.1 hx16; have e1 := h1.c1 x.1 hx16; have r1 := h1.fr (x.1 * 6 + 1); rw [upd_same] at e0; have e0' : w'.cell? ⟨b, x.1 * 6, none⟩ = some (.int .u64 (g x.1).seen) := e0; have H1 := Lib.hid h1; have H2 := Lib.hid h2; clear h1 h2 e0)
          have hv : pickV 2 (g x.1) = (g x.1).seen := rfl
          have F := FIN.out 2 W1 w' (w'.setCell ⟨b, x.1 * 6 + 1, none⟩ (.int .u64 (pickV 2 (g x.1)))) (some ⟨gb, go + 1, none⟩) (c' - 1) (by rw [HCR.out]; simp only [List.getElem?_cons_zero, Option.getD_some]; rw [HY3.out]) HU1.out HB1.out (by have := HCL.out; simp only [List.drop_one, List.tail_cons] at this ⊢; omega) (fun _ p hp => by cases hp; exact HAB.out (by simp) ⟨gb, go, none⟩ rfl) (ints_up HU1.out (by omega) HIY.out)
          rw [hv] at F
          exact F H1.out H2.out rfl
        · cases hfl : (g x.1).flushed
          · rw [hfl] at c3
            gi_wp2_with (refine ⟨trivial, ?_⟩; gi_at_call 23; refine (CallsIn.inRound l (callsIn_wide.2 (HS.out _ _ HA1.out))).mono ?_; rintro e w' ⟨⟨u, rfl⟩, h1, h2⟩; have e0 := h1.c0 x.1 hx16; have e1 := h1.c1 x.1 hx16; have r1 := h1.fr (x.1 * 6 + 1); rw [upd_same] at e0; have e0' : w'.cell? ⟨b, x.1 * 6, none⟩ = some (.int .u64 (g x.1).sure) := e0; have H1 := Lib.hid h1; have H2 := Lib.hid h2; clear h1 h2 e0)
            have hv : pickV 1 (g x.1) = (g x.1).sure := (by simp [pickV, hfl])
            have F := FIN.out 1 W1 w' (w'.setCell ⟨b, x.1 * 6 + 1, none⟩ (.int .u64 (pickV 1 (g x.1)))) (some ⟨gb, go + 1, none⟩) (c' - 1) (by rw [HCR.out]; simp only [List.getElem?_cons_zero, Option.getD_some]; rw [HY3.out]) HU1.out HB1.out (by have := HCL.out; simp only [List.drop_one, List.tail_cons] at this ⊢; omega) (fun _ p hp => by cases hp; exact HAB.out (by simp) ⟨gb, go, none⟩ rfl) (ints_up HU1.out (by omega) HIY.out)
            rw [hv] at F
            exact F H1.out H2.out rfl
          · rw [hfl] at c3
            gi_wp2_with (refine ⟨trivial, ?_⟩; gi_at_call 23; refine (CallsIn.inRound l (callsIn_wide.2 (HS.out _ _ HA1.out))).mono ?_; rintro e w' ⟨⟨u, rfl⟩, h1, h2⟩; have e0 := h1.c0 x.1 hx16; have e1 := h1.c1 x.1 hx16; have r1 := h1.fr (x.1 * 6 + 1); rw [upd_same] at e0; have e0' : w'.cell? ⟨b, x.1 * 6, none⟩ = some (.int .u64 (g x.1).value) := e0; have H1 := Lib.hid h1; have H2 := Lib.hid h2; clear h1 h2 e0)
            have hv : pickV 1 (g x.1) = (g x.1).value := (by simp [pickV, hfl])
            have F := FIN.out 1 W1 w' (w'.setCell ⟨b, x.1 * 6 + 1, none⟩ (.int .u64 (pickV 1 (g x.1)))) (some ⟨gb, go + 1, none⟩) (c' - 1) (by rw [HCR.out]; simp only [List.getElem?_cons_zero, Option.getD_some]; rw [HY3.out]) HU1.out HB1.out (by have := HCL.out; simp only [List.drop_one, List.tail_cons] at this ⊢; omega) (fun _ p hp => by cases hp; exact HAB.out (by simp) ⟨gb, go, none⟩ rfl) (ints_up HU1.out (by omega) HIY.out)
            rw [hv] at F
            exact F H1.out H2.out rfl
        · gi_wp2_with (refine ⟨trivial, ?_⟩; gi_at_call 23; refine (CallsIn.inRound l (callsIn_wide.2 (HS.out _ _ HA1.out))).mono ?_; rintro e w' ⟨⟨u, rfl⟩, h1, h2⟩; have e0 := h1.c0 x.1 hx16; have e1 := h1.c1 x.1 hx16; have r1 := h1.fr (x.1 * 6 + 1); rw [upd_same] at e0; have e0' : w'.cell? ⟨b, x.1 * 6, none⟩ = some (.int .u64 (g x.1).sure) := e0; have H1 := Lib.hid h1; have H2 := Lib.hid h2; clear h1 h2 e0)
          have hv : pickV 0 (g x.1) = (g x.1).sure := rfl
          have F := FIN.out 0 W1 w' (w'.setCell ⟨b, x.1 * 6 + 1, none⟩ (.int .u64 (pickV 0 (g x.1)))) (some ⟨gb, go + 1, none⟩) (c' - 1) (by rw [HCR.out]; simp only [List.getElem?_cons_zero, Option.getD_some]; rw [HY3.out]) HU1.out HB1.out (by have := HCL.out; simp only [List.drop_one, List.tail_cons] at this ⊢; omega) (fun _ p hp => by cases hp; exact HAB.out (by simp) ⟨gb, go, none⟩ rfl) (ints_up HU1.out (by omega) HIY.out)
          rw [hv] at F
          exact F H1.out H2.out rfl
  case done =>
    rintro D xs W hD rfl ⟨_, hi1, hi2⟩ hK
    have H1 := Lib.hid hi1
    have H2 := Lib.hid hi2
    clear hi1 hi2
    gi_wp2
    refine ⟨by simp, .inl ⟨_, _, rfl, run_takeDeferred hK, ?_⟩⟩
    have hs2 := H2.out.size
    refine ⟨.int .i64 0, by simp [results, Try.f15, go_sem], rfl, H1.out.putDone (by omega) (by omega), ?_⟩
    exact ⟨H2.out.os.trans hN0.b.os, H2.out.tape.trans hN0.b.tape, H2.out.output.trans hN0.b.output, by simp only [World.putObj]; simp; omega, fun k hk hn => (World.putObj_heap_other (by omega)).trans ((H2.out.block k (by omega) hn (by omega)).trans (hN0.b.block k hk))⟩
  case stop =>
    rintro D c pre W _ _ h _
    exact h.elim

theorem crash_any (d b : Nat) (f : Nat → Wd) (n₀ : Nat) (a : Option Addr) (len cap : Nat) (zs : List Int) (hl : zs.length = len) (hlc : len ≤ cap) (hreach : len ≤ 140737488355000) (hz : ∀ x ∈ zs, 0 ≤ x ∧ x ≤ 255) (w : World) (hnw : n₀ ≤ w.heap.size) (hab : ∀ p, a = some p → p.block ≠ b) (hI0 : Ints n₀ .u8 w a zs) (h : DevAt w d b f) :
    Calls Try.prog 15 #[.pointer (some ⟨d, 0, none⟩), .slice a len cap] w (DevG w d b (gone (crashW zs) 0 0 (lsL f) f)) :=
  crash_gen d b f n₀ a len cap zs hl hlc hreach hz w hnw (fun _ => hab) hI0 h

end Go.Proofs.Ytfjobldfdakfpaa
