import Derived.Test.YtkopfnldgnkkoaaGreatOvE
import Derived.Test.YtkopfnldgnkkoaaGreatLyG
import Derived.Test.YtkopfnldgnkkoaaGreatRdG
import Derived.Test.YtkopfnldgnkkoaaGreatRdH
import Derived.Test.YtkopfnldgnkkoaaGreatCmW

/-
  OVER: the document's Committed.
-/
namespace Go.Proofs.YtkopfnldgnkkoaaGreat
open Go.RowKit Go.Shelf
set_option linter.unusedVariables false

theorem quietly_left {P : Program} {f : FuncId} {args : Array Value} {w : World} {n : Nat} {v : Value} (h : Calls P f args (w.drewN n) (Quietly v (w.drewN n))) : Calls P f args (w.drewN n) fun e w'' => e = .returned v ∧ ∃ m, w'' = w.drewN m := by
  refine h.mono ?_
  rintro e w' ⟨he, m, rfl⟩
  exact ⟨he, n + m, by rw [World.drewN_drewN]⟩
/-- What the document's Committed tells. -/
def RComR (g : G) (ar : List Int) (w : World) (e : Ending) (w' : World) : Prop :=
  ∃ a n c, e = .returned (.tuple #[.slice a n c, .bool (comOk g ar)]) ∧ n ≤ c ∧ (comOk g ar = true → n = (comL g ar).length ∧ Pairs .i64 .u64 w'.heap.size w' a (comL g ar)) ∧ Nw w w' ∧ (∀ p, a = some p → w.heap.size ≤ p.block)
set_option maxRecDepth 100000 in
set_option maxHeartbeats 4000000 in
theorem rcommitted_any (g : G) (k : Nat) (b off n c n₀ : Nat) (ws : List Int) (hx : ws.length = n) (hnc : n ≤ c) (hn : n ≤ 1000000) (hu : ∀ x ∈ ws, u64 x) (ho : ovOk g n) (hk : (k : Int) < g.w) (w : World) (hn₀ : n₀ ≤ w.heap.size) (hI : Ints n₀ .u64 w (some ⟨b, off, none⟩) ws) :
    Calls Tryz.prog 67 #[gV g, .int .i64 k, .slice (some ⟨b, off, none⟩) n c] w (RComR g (areaL ws k) w) := by
  have hb := Blk.new w #[.int .i64 g.w, .int .i64 g.i, .int .i64 g.b] 28
  have hn1 := (Nw.refl (w := w)).alloc (.cells #[.int .i64 g.w, .int .i64 g.i, .int .i64 g.b] 28)
  obtain ⟨hq1, hq2⟩ := ov_words ho k hk
  have hal := areaL_len ws k (by rw [hx]; exact hq1)
  have hau : ∀ x ∈ areaL ws k, u64 x := fun x h => hu x (areaL_mem h)
  obtain ⟨q, hq⟩ : ∃ q : Nat, q = 264 + 208 * k := ⟨_, rfl⟩
  have hq3 : q + 208 ≤ n := by omega
  have hare : areaL ws k = (ws.drop q).take 208 := by rw [hq]; rfl
  obtain ⟨m, hm⟩ : ∃ m, hd (areaL ws k) = m := ⟨_, rfl⟩
  have hmq : ws[q]?.getD 0 = m := by
    rw [← hm, hare]
    show _ = ((ws.drop q).take 208)[0]?.getD 0
    rw [List.getElem?_take_of_lt (by omega), List.getElem?_drop, Nat.add_zero]
  obtain ⟨own, hown⟩ : ∃ own, (areaL ws k).drop 8 = own := ⟨_, rfl⟩
  have hlo : own.length = 200 := by rw [← hown, List.length_drop]; omega
  have huo : ∀ x ∈ own, u64 x := fun x h => hau x (List.mem_of_mem_drop (by rw [hown]; exact h))
  have HOK := Lib.hid (show comOk g (areaL ws k) = (readOk g own && (m != 0) && (m == markV own)) by unfold comOk; rw [hown, hm])
  have HCL := Lib.hid (show comL g (areaL ws k) = if comOk g (areaL ws k) = true then readL g own else [] by unfold comL; rw [hown])
  have hI0 : Ints n₀ .u64 w (some ⟨b, off + (q + 8), none⟩) own := by
    rw [← hown, hare]
    have h1 := ((hI.drop q).take 208).drop 8
    rwa [Nat.add_assoc] at h1
  have HIO : Hid (∀ W, Nw w W → Ints n₀ .u64 W (some ⟨b, off + (q + 8), none⟩) own) := fun W k' => hI0.below (k'.b.mono hn₀)
  have HCQ : Hid (∀ W, Nw w W → W.cell? ⟨b, off + q, none⟩ = some (.int .u64 m)) := fun W k' => by
    rcases hI.below (k'.b.mono hn₀) with e | ⟨b', off', e, _, hc⟩
    · rw [e] at hx; simp at hx; omega
    · cases e; rw [hc q (by omega), hmq]
  have HAR := Lib.hid (fun W => rarea_at g k (w0 := W) (w := W) At.refl)
  rw [hq2, show (264 + 208 * (k : Int)) = ((q : Nat) : Int) by omega] at HAR
  unfold gV at HAR ⊢
  have HQ := Lib.hid hq
  clear hq hI hI0 hare hal hau hm hown hq2 hq1 hx hu
  go_enter Tryz.func67, Tryz.ntmps67
  go_upto_region 1 with fail
  generalize w.alloc (.cells #[.int .i64 g.w, .int .i64 g.i, .int .i64 g.b] 28) = w1 at *
  generalize hbx : w.heap.size = bx at hb
  have HBX := Lib.hid hbx
  have HN1 := Lib.hid hn1
  have HB1 := Lib.hid hb
  have c0 : w1.cell? ⟨bx, 0, none⟩ = some (.int .i64 g.w) := hb.cell rfl
  have c1 : w1.cell? ⟨bx, 1, none⟩ = some (.int .i64 g.i) := hb.cell rfl
  have c2 : w1.cell? ⟨bx, 2, none⟩ = some (.int .i64 g.b) := hb.cell rfl
  have HARw := Lib.hid (HAR.out w1)
  clear hb hn1 hbx HAR
  go_wp2_with fail
  refine HARw.out.mono ?_
  rintro e w2 ⟨rfl, h2⟩
  have HN2 := Lib.hid (HN1.out.trans h2.nw)
  have HB2 := Lib.hid (HB1.out.nw h2.nw)
  clear h2 c0 c1 c2 HARw
  have c0 : w2.cell? ⟨bx, 0, none⟩ = some (.int .i64 g.w) := HB2.out.cell rfl
  have c1 : w2.cell? ⟨bx, 1, none⟩ = some (.int .i64 g.i) := HB2.out.cell rfl
  have c2 : w2.cell? ⟨bx, 2, none⟩ = some (.int .i64 g.b) := HB2.out.cell rfl
  have hcq := HCQ.out w2 HN2.out
  obtain ⟨q8, hq8⟩ : ∃ q8 : Nat, q8 = q + 8 := ⟨_, rfl⟩
  obtain ⟨qe, hqe⟩ : ∃ qe : Nat, qe = q + 208 := ⟨_, rfl⟩
  have hw8 : IntKind.i64.wrap ((q : Int) + 8) = (q8 : Int) := by rw [hq8]; exact IntWalk.i64_in _ (by omega)
  have hw2 : IntKind.i64.wrap ((q : Int) + 208) = (qe : Int) := by rw [hqe]; exact IntWalk.i64_in _ (by omega)
  have hs2 : (q8 : Int) ≤ (qe : Int) := by omega
  have hs3 : (qe : Int) ≤ (c : Int) := by omega
  have hs5 : ¬ (c = q8) := by omega
  have HQ8 := Lib.hid hq8
  have HQE := Lib.hid (show qe - q8 = 200 by omega)
  have hcl : own.length ≤ c - q8 := by omega
  have HRD : Hid (Calls Tryz.prog 101 #[gV g, .slice (some ⟨b, off + q8, none⟩) (qe - q8) (c - q8)] w2 (ReadR g own w2)) := by
    rw [HQE.out, ← hlo, hq8]
    exact rread_any g (some ⟨b, off + (q + 8), none⟩) (c - (q + 8)) n₀ own (by omega) huo (by omega) w2 (Nat.le_trans hn₀ HN2.out.b.size) (HIO.out w2 HN2.out)
  have HMK : Hid (∀ W, Nw w W → Calls Tryz.prog 64 #[.slice (some ⟨b, off + q8, none⟩) (qe - q8) (c - q8)] W (Quietly (.int .u64 (markV own)) W)) := fun W k' => by
    rw [HQE.out, ← hlo, hq8]
    exact rmark_any (some ⟨b, off + (q + 8), none⟩) (c - (q + 8)) n₀ own (by omega) huo (by omega) W (HIO.out W k')
  clear hq8 hqe hcl
  unfold gV at HRD
  go_wp2_with fail
  (with_reducible refine HRD.out.mono ?_)
  rintro e w3 ⟨a, ca, rfl, hc3, hP3, hn3, hf3⟩
  have HF3 := Lib.hid (fun (p : Addr) (hp : a = some p) => Nat.le_trans HN2.out.b.size (hf3 p hp))
  have HP3 := Lib.hid hP3
  have HN3 := Lib.hid (HN2.out.trans hn3)
  clear hf3 hP3 hn3 c0 c1 c2 hcq HRD
  have hcq := HCQ.out w3 HN3.out
  have HMW := Lib.hid (fun nd => HMK.out (w3.drewN nd) (HN3.out.drewN nd))
  have hqn : (q : Int) < (n : Int) := by omega
  have hq0 : (0 : Int) ≤ (q : Int) := by omega
  obtain ⟨nr, hnr⟩ : ∃ nr, (readL g own).length = nr := ⟨_, rfl⟩
  have HNN := Lib.hid hnr
  rw [hnr] at hc3 ⊢
  clear hnr hw8 hw2 hs2 hs3 hs5
  cases hr : readOk g own
  · have hC := Lib.hid (show comOk g (areaL ws k) = false by rw [HOK.out, hr]; rfl)
    have he : readE g own = 4 := if_neg (by rw [hr]; decide)
    rw [he]
    clear hr he
    go_wp2_with fail
    go_quiet (fail)
    go_wp2_with fail
    go_ret2
    exact ⟨a, nr, ca, by rw [hC.out]; rfl, hc3, fun h => (by rw [hC.out] at h; cases h), HN3.out.drewN _, HF3.out⟩
  · have he : readE g own = 0 := if_pos hr
    rw [he]
    by_cases h0 : m = 0
    · have hC := Lib.hid (show comOk g (areaL ws k) = false by rw [HOK.out, hr, h0]; rfl)
      subst h0
      clear hr he
      go_wp2_with fail
      go_quiet (fail)
      go_wp2_with fail
      go_ret2
      exact ⟨a, nr, ca, by rw [hC.out]; rfl, hc3, fun h => (by rw [hC.out] at h; cases h), HN3.out.drewN _, HF3.out⟩
    · have hmb : (m != 0) = true := by rw [bne_iff_ne]; exact h0
      have hC := Lib.hid (show comOk g (areaL ws k) = (m == markV own) by rw [HOK.out, hr, hmb]; rfl)
      have hCL := Lib.hid (fun (h : comOk g (areaL ws k) = true) => (show comL g (areaL ws k) = readL g own by rw [HCL.out, if_pos h]))
      clear hr he h0
      go_wp2_with fail
      go_quiet ((go_at_call 64; exact quietly_left (HMW.out _)))
      go_wp2_with fail
      go_ret2
      refine ⟨a, nr, ca, by rw [hC.out]; rfl, hc3, fun h => ⟨by rw [hCL.out h, HNN.out], ?_⟩, HN3.out.drewN _, HF3.out⟩
      rw [hCL.out h]
      exact HP3.out.nw (nw_drewN w3 _)
end Go.Proofs.YtkopfnldgnkkoaaGreat

/-
  OVER: the document's Over.
-/
namespace Go.Proofs.YtkopfnldgnkkoaaGreat
open Go.RowKit Go.Shelf
set_option linter.unusedVariables false

set_option maxRecDepth 100000 in
set_option maxHeartbeats 4000000 in
theorem rover_nil (g : G) (a : Option Addr) (n c : Nat) (h : ¬ ovOk g n) (w : World) :
    Calls Tryz.prog 33 #[gV g, .slice a n c] w (OvR [] w) := by
  have hn0 := (Nw.refl (w := w)).alloc (.cells #[.int .i64 g.w, .int .i64 g.i, .int .i64 g.b] 28)
  have hb := Blk.new w #[.int .i64 g.w, .int .i64 g.i, .int .i64 g.b] 28
  have hno : mayB g = false ∨ (mayB g = true ∧ (n : Int) < wordsV g) := by
    by_cases hm : mayP g
    · right
      refine ⟨mayB_true.2 hm, ?_⟩
      unfold ovOk at h
      have : ¬ wordsV g ≤ (n : Int) := fun h' => h ⟨hm, h'⟩
      omega
    · left; exact mayB_false.2 hm
  have HRM := Lib.hid (fun W => rmay_any g (w0 := W) (w := W) At.refl)
  have HRW := Lib.hid (fun W => rwords_any g (w0 := W) (w := W) At.refl)
  unfold gV at HRM HRW ⊢
  clear h
  go_enter Tryz.func33, Tryz.ntmps33
  go_upto_region 1 with fail
  generalize w.alloc (.cells #[.int .i64 g.w, .int .i64 g.i, .int .i64 g.b] 28) = w1 at *
  generalize w.heap.size = bx at hb ⊢
  have c0 : w1.cell? ⟨bx, 0, none⟩ = some (.int .i64 g.w) := hb.cell rfl
  have c1 : w1.cell? ⟨bx, 1, none⟩ = some (.int .i64 g.i) := hb.cell rfl
  have c2 : w1.cell? ⟨bx, 2, none⟩ = some (.int .i64 g.b) := hb.cell rfl
  have HN := Lib.hid hn0
  have HB := Lib.hid hb
  have HM1 := Lib.hid (HRM.out w1)
  clear hb hn0 HRM
  generalize wordsV g = V at *
  rcases hno with hm | ⟨hm, hlt⟩
  · rw [hm] at HM1
    clear hm
    go_wp2_with fail
    refine HM1.out.mono ?_
    rintro e w2 ⟨rfl, h2⟩
    go_wp2_with fail
    go_ret
    exact ⟨none, 0, rfl, Nat.le_refl _, .inl rfl, HN.out.trans h2.nw, .inl ⟨rfl, rfl, rfl⟩⟩
  · rw [hm] at HM1
    clear hm
    go_wp2_with fail
    refine HM1.out.mono ?_
    rintro e w2 ⟨rfl, h2⟩
    have HB2 := Lib.hid (HB.out.nw h2.nw)
    have HN2 := Lib.hid (HN.out.trans h2.nw)
    have HW2 := Lib.hid (HRW.out w2)
    clear h2 c0 c1 c2 HM1 HRW
    have c0 : w2.cell? ⟨bx, 0, none⟩ = some (.int .i64 g.w) := HB2.out.cell rfl
    have c1 : w2.cell? ⟨bx, 1, none⟩ = some (.int .i64 g.i) := HB2.out.cell rfl
    have c2 : w2.cell? ⟨bx, 2, none⟩ = some (.int .i64 g.b) := HB2.out.cell rfl
    go_wp2_with fail
    refine HW2.out.mono ?_
    rintro e w3 ⟨rfl, h3⟩
    go_wp2_with fail
    go_ret
    exact ⟨none, 0, rfl, Nat.le_refl _, .inl rfl, HN2.out.trans h3.nw, .inl ⟨rfl, rfl, rfl⟩⟩
set_option maxRecDepth 100000 in
set_option maxHeartbeats 8000000 in
theorem rover_yes (g : G) (a : Option Addr) (n c n₀ : Nat) (ws : List Int) (hx : ws.length = n) (hs : Shp a n c) (hnc : n ≤ c) (hn : n ≤ 1000000) (hu : ∀ x ∈ ws, u64 x) (h : ovOk g n) (w : World) (hn₀ : n₀ ≤ w.heap.size) (hI : Ints n₀ .u64 w a ws) :
    Calls Tryz.prog 33 #[gV g, .slice a n c] w (OvR (overL g ws) w) := by
  obtain ⟨i0, hi, hz0, hz1, hz2⟩ := info_parts8 info_u64
  have hun := Tryz.underlying33
  have hn0 := (Nw.refl (w := w)).alloc (.cells #[.int .i64 g.w, .int .i64 g.i, .int .i64 g.b] 28)
  have hb := Blk.new w #[.int .i64 g.w, .int .i64 g.i, .int .i64 g.b] 28
  have HX := Lib.hid hx
  have HU := Lib.hid hu
  have HOK := Lib.hid h
  have hVp := words_pos h.1
  have hVn := h.2
  have hgw := h.1.1
  have hgw4 := h.1.2.1
  have hmb := mayB_true.2 h.1
  have hOL : overL g ws = clr (ovTo g ws g.w.toNat) (264 + 208 * g.w.toNat) := if_pos (by rw [hx]; exact h)
  rw [hOL]
  obtain ⟨b, off, rfl⟩ : ∃ b off, a = some ⟨b, off, none⟩ := by
    rcases hs with ⟨_, h0, _⟩ | h
    · omega
    · exact h
  have HI := Lib.hid hI
  have HRM := Lib.hid (fun W => rmay_any g (w0 := W) (w := W) At.refl)
  have HRW := Lib.hid (fun W => rwords_any g (w0 := W) (w := W) At.refl)
  rw [hmb] at HRM
  unfold gV at HRM HRW ⊢
  clear h hx hu hI hOL hs hmb
  have HI1 := Lib.hid (HI.out.below (hn0.b.mono hn₀))
  go_enter Tryz.func33, Tryz.ntmps33
  go_upto_region 1 with fail
  have HLE := Lib.hid (Nat.le_trans hn₀ hn0.b.size)
  generalize w.alloc (.cells #[.int .i64 g.w, .int .i64 g.i, .int .i64 g.b] 28) = w1 at *
  generalize hbx : w.heap.size = bx at hb ⊢
  have HBX := Lib.hid hbx
  clear hbx
  have c0 : w1.cell? ⟨bx, 0, none⟩ = some (.int .i64 g.w) := hb.cell rfl
  have c1 : w1.cell? ⟨bx, 1, none⟩ = some (.int .i64 g.i) := hb.cell rfl
  have c2 : w1.cell? ⟨bx, 2, none⟩ = some (.int .i64 g.b) := hb.cell rfl
  have HN := Lib.hid hn0
  have HB := Lib.hid hb
  have HM1 := Lib.hid (HRM.out w1)
  obtain ⟨V, hV⟩ : ∃ V, wordsV g = V := ⟨_, rfl⟩
  have HV := Lib.hid hV
  rw [hV] at HRW hVp hVn
  clear hb hn0 hV HRM
  go_wp2_with fail
  refine HM1.out.mono ?_
  rintro e w2 ⟨rfl, h2⟩
  have HN2 := Lib.hid (HN.out.trans h2.nw)
  have HB2 := Lib.hid (HB.out.nw h2.nw)
  have HI2 := Lib.hid (HI1.out.below (h2.nw.b.mono HLE.out))
  have HLE2 := Lib.hid (Nat.le_trans HLE.out h2.nw.b.size)
  have HW2 := Lib.hid (HRW.out w2)
  clear h2 c0 c1 c2 HM1 HRW HB HI1
  have c0 : w2.cell? ⟨bx, 0, none⟩ = some (.int .i64 g.w) := HB2.out.cell rfl
  have c1 : w2.cell? ⟨bx, 1, none⟩ = some (.int .i64 g.i) := HB2.out.cell rfl
  have c2 : w2.cell? ⟨bx, 2, none⟩ = some (.int .i64 g.b) := HB2.out.cell rfl
  have hlv : ¬ ((n : Int) < V) := by omega
  go_wp2_with fail
  refine HW2.out.mono ?_
  rintro e w3 ⟨rfl, h3⟩
  have HN3 := Lib.hid (HN2.out.trans h3.nw)
  have HB3 := Lib.hid (HB2.out.nw h3.nw)
  have HI3 := Lib.hid (HI2.out.below (h3.nw.b.mono HLE2.out))
  have HLE3 := Lib.hid (Nat.le_trans HLE2.out h3.nw.b.size)
  clear h3 c0 c1 c2 HW2 HB2 HI2
  have how : ∀ W, Nw (w3.alloc (.cells #[] 44)) W → W.ownsRow w3.heap.size 44 1 (.slice (some ⟨w3.heap.size, 0, none⟩) 0 0) 0 ([] : List Value) := fun W k =>
    ⟨rfl, .inr ⟨w3.heap.size, 0, #[], rfl, Nat.le_refl _, (k.b.block w3.heap.size (by simp)).trans (heap_alloc_new w3 _), Nat.le_refl _, Nat.zero_le _, rfl, rfl⟩⟩
  have hbel : Below w3.heap.size w3 (w3.alloc (.cells #[] 44)) := (Below.refl _ w3).alloc (Nat.le_refl _) _
  have HC := Lib.hid (HI3.out.below (hbel.mono HLE3.out))
  go_wp2_with (first | (at_builtin; go_loud (refine wpList_append_ints _ rfl (.tmp 23) (.tmp 24) 33 rfl w3.heap.size 44 i0 (.int .u64 0) 8 hun hi hz0 hz1 hz2 rfl _ 0 _ rfl (how _ Nw.refl) _ n c .u64 ws _ rfl HX.out HC.out (by unfold maxLen; omega) (by omega) (by simp) ?_); intro v4 w4 hown4 hgrow4; have hb4 : Below w3.heap.size w3 w4 := Below.grownRow hbel hgrow4 (by simp) (how _ Nw.refl) (Nat.le_refl _); clear hgrow4) | fail)
  simp only [List.nil_append, Nat.zero_add] at hown4
  rw [← HX.out] at hown4
  have hown : OwnU w3 ws (.returned v4) w4 := ⟨v4, rfl, hown4, ⟨hb4⟩⟩
  obtain ⟨bo, co, hv4, ho, hn4, hco, hbo⟩ := hown.out (by rw [HX.out]; omega)
  rw [HX.out] at hco hv4
  cases hv4
  have HB4 := Lib.hid (HB3.out.nw hn4)
  have HO4 := Lib.hid ho
  have HN4 := Lib.hid (HN3.out.trans hn4)
  have HI4 := Lib.hid (HI3.out.below (hn4.b.mono HLE3.out))
  have HBO := Lib.hid (Nat.le_trans HLE3.out hbo)
  have HBW := Lib.hid (Nat.le_trans HN3.out.b.size hbo)
  clear hown hown4 hb4 ho hn4 hbo hbel how HC HI3 HB3 hi hz0 hz1 hz2 hun
  go_loopw [6] (fun v wr => ∃ k : Nat, (k : Int) ≤ g.w ∧ v = .int .i64 k ∧ Blk wr bx #[.int .i64 g.w, .int .i64 g.i, .int .i64 g.b] 28 ∧ OutAt wr bo (ovTo g ws k) ∧ Up bo w4 wr) (fun v _ => g.w.toNat - (intOf v).toNat)
  case atStart => exact ⟨0, by omega, rfl, HB4.out, HO4.out, Up.refl _ _⟩
  case round =>
    obtain ⟨k, hk, rfl, hb, ho, hup⟩ := hrel
    have HB := Lib.hid hb
    have HO := Lib.hid ho
    have HU' := Lib.hid hup
    clear hb ho hup HO4
    have c0 : wr.cell? ⟨bx, 0, none⟩ = some (.int .i64 g.w) := HB.out.cell rfl
    have c1 : wr.cell? ⟨bx, 1, none⟩ = some (.int .i64 g.i) := HB.out.cell rfl
    have c2 : wr.cell? ⟨bx, 2, none⟩ = some (.int .i64 g.b) := HB.out.cell rfl
    by_cases hlt : (k : Int) < g.w
    · have HIr := Lib.hid (ints_up HU'.out HBO.out HI4.out)
      have HRC := Lib.hid (rcommitted_any g k b off n c n₀ ws HX.out hnc hn HU.out HOK.out hlt wr (Nat.le_trans hn₀ (Nat.le_trans HN4.out.b.size HU'.out.size)) HIr.out)
      unfold gV at HRC
      have HST : Hid (ovTo g ws (k + 1) = putsL (ovTo g ws k) (comL g (areaL ws k))) := rfl
      have HIN := Lib.hid (fun (x : Wr) (hx : x ∈ comL g (areaL ws k)) => comL_in hx)
      rw [HV.out] at HIN
      have HL9 := Lib.hid (comL_le g (areaL ws k))
      go_wp2_with fail
      (with_reducible refine HRC.out.mono ?_)
      rintro e w5 ⟨la, ln, lc, rfl, hlc, hcm, hn5, hf5⟩
      have HB5 := Lib.hid (HB.out.nw hn5)
      have HO5 := Lib.hid (HO.out.nw hn5)
      have HU5 := Lib.hid (HU'.out.nw hn5)
      have HCO := Lib.hid hcm
      have HF5 := Lib.hid (fun (p : Addr) (hp : la = some p) => (show p.block ≠ bo from fun h => absurd (hf5 p hp) (by rw [h]; exact Nat.not_le.2 HO.out.ty.lt)))
      clear hcm hf5 hn5 c0 c1 c2 HRC HB HO HIr
      cases hco5 : comOk g (areaL ws k)
      · have HNO := Lib.hid (comL_no hco5)
        clear hco5
        go_wp2_with fail
        go_loopw [9] (fun v wq => v = .int .i64 0 ∧ wq = w5) (fun v _ => 0)
        case atStart => exact ⟨rfl, rfl⟩
        case round =>
          obtain ⟨rfl, rfl⟩ := hrel
          go_wp2_with fail
          go_roundw
          case rel => exact ⟨k + 1, by omega, by go_num, HB5.out, by rw [HST.out, HNO.out]; exact HO5.out, HU5.out⟩
          case measure => simp [intOf]; omega
      · obtain ⟨h1, hP⟩ := HCO.out hco5
        obtain ⟨l, hl⟩ : ∃ l, comL g (areaL ws k) = l := ⟨_, rfl⟩
        rw [hl] at h1 hP HST HIN HL9
        have HP := Lib.hid hP
        have HLN := Lib.hid h1
        have hl9 : ln ≤ 96 := by rw [h1]; exact HL9.out
        clear hco5 h1 hP HCO hl
        go_wp2_with fail
        go_loopw [9] (fun v wq => ∃ j : Nat, j ≤ ln ∧ v = .int .i64 j ∧ OutAt wq bo (putsL (ovTo g ws k) (l.take j)) ∧ Up bo w5 wq) (fun v _ => ln - (intOf v).toNat)
        case atStart => exact ⟨0, Nat.zero_le _, rfl, by simpa [putsL] using HO5.out, Up.refl _ _⟩
        case round =>
          obtain ⟨j, hj, rfl, ho, hup⟩ := hrel
          have HO := Lib.hid ho
          have HUq := Lib.hid hup
          clear ho hup
          by_cases hjl : j < ln
          · have hjL : j < l.length := by rw [← HLN.out]; exact hjl
            obtain ⟨pb, po, rfl, p1, p2⟩ := Pairs.at (j := j) HP.out hjL
            have hpb := HF5.out _ rfl
            have p1' := HUq.out.cell p1 hpb
            have p2' := HUq.out.cell p2 hpb
            have HPT := Lib.hid (putsL_take (zs := ovTo g ws k) hjL)
            have hx := HIN.out _ (List.getElem_mem hjL)
            obtain ⟨x, hxe⟩ : ∃ x, l[j] = x := ⟨_, rfl⟩
            rw [hxe] at p1' p2' HPT hx
            obtain ⟨x1, x2⟩ := x
            dsimp only at p1' p2' HPT hx
            obtain ⟨q, hq⟩ : ∃ q : Nat, (q : Int) = x1 := ⟨x1.toNat, by omega⟩
            subst hq
            have hqi : (q : Int) < (n : Int) := by omega
            have hq0 : 0 ≤ (q : Int) := by omega
            have hS := HO.out.set q x2
            have hcq : wr.cell? ⟨bo, q, none⟩ = some (.int .u64 ((putsL (ovTo g ws k) (l.take j))[q]?.getD 0)) := HO.out.at_ q (by rw [putsL_len, ovTo_len, HX.out]; omega)
            have hfr : wr.frozen? ⟨bo, q, none⟩ = false := HO.out.ty.frozen q
            have HS := Lib.hid (hS.nw Nw.refl.drew)
            have HUd := Lib.hid ((HUq.out.set q (.int .u64 x2)).nw Nw.refl.drew)
            have e1 : (wr.setCell ⟨bo, q, none⟩ (.int .u64 x2)).cell? ⟨pb, po + j * 2, none⟩ = some (.int .i64 q) := by rw [cell_far _ _ _ _ _ hpb]; exact p1'
            have e2 : (wr.setCell ⟨bo, q, none⟩ (.int .u64 x2)).cell? ⟨pb, po + j * 2 + 1, none⟩ = some (.int .u64 x2) := by rw [cell_far _ _ _ _ _ hpb]; exact p2'
            have E1 := Lib.hid e1
            have E2 := Lib.hid e2
            clear p1 p2 hxe hx hS e1 e2
            have hjn : (j : Int) < (ln : Int) := by omega
            have hj0 : (0 : Int) ≤ (j : Int) := by omega
            go_wp2_with fail
            go_region_held3 (fun w' => w'.cell? ⟨pb, po + j * 2, none⟩ = some (.int .i64 q) ∧ w'.cell? ⟨pb, po + j * 2 + 1, none⟩ = some (.int .u64 x2))
              (first | (exact ⟨p1', p2'⟩) | (exact ⟨E1.out, E2.out⟩))
              (fail)
            generalize (wr.setCell ⟨bo, q, none⟩ (.int .u64 x2)).drew = w7 at *
            clear hcq hfr p1' p2' hpb hqi hq0 hjn hj0
            go_wp2_with fail
            go_roundw
            case rel => exact ⟨j + 1, by omega, by go_num, by rw [HPT.out]; exact HS.out, HUd.out⟩
            case measure => simp [intOf]; omega
          · obtain rfl : j = ln := by omega
            rw [List.take_of_length_le (by rw [← HLN.out]; exact Nat.le_refl _)] at HO
            go_wp2_with fail
            go_roundw
            case rel => exact ⟨k + 1, by omega, by go_num, HB5.out.up HUq.out (HB5.out.tag.ne HO5.out.ty (by decide)), by rw [HST.out]; exact HO.out, HU5.out.trans HUq.out⟩
            case measure => simp [intOf]; omega
    · have HGT := Lib.hid (show g.w.toNat = k by omega)
      go_wp2_with fail
      clear c0 c1 c2
      go_loopw [10] (fun v wq => ∃ j : Nat, (j : Int) ≤ g.w ∧ v = .int .i64 j ∧ Blk wq bx #[.int .i64 g.w, .int .i64 g.i, .int .i64 g.b] 28 ∧ OutAt wq bo (clr (ovTo g ws k) (264 + 208 * j)) ∧ Up bo w4 wq) (fun v _ => k - (intOf v).toNat)
      case atStart => exact ⟨0, by omega, rfl, HB.out, by rw [clr_none]; exact HO.out, HU'.out⟩
      case round =>
        clear HB HO HU'
        obtain ⟨j, hj, rfl, hb, ho, hup⟩ := hrel
        have HB := Lib.hid hb
        have HO := Lib.hid ho
        have HU' := Lib.hid hup
        clear hb ho hup
        have c0 : wr.cell? ⟨bx, 0, none⟩ = some (.int .i64 g.w) := HB.out.cell rfl
        have c1 : wr.cell? ⟨bx, 1, none⟩ = some (.int .i64 g.i) := HB.out.cell rfl
        have c2 : wr.cell? ⟨bx, 2, none⟩ = some (.int .i64 g.b) := HB.out.cell rfl
        by_cases hjk : (j : Int) < g.w
        · obtain ⟨hq1, hq2⟩ := ov_words HOK.out j hjk
          obtain ⟨q, hq⟩ : ∃ q : Nat, q = 264 + 208 * j := ⟨_, rfl⟩
          have HAR := Lib.hid (rarea_at g j (w0 := wr) (w := wr) At.refl)
          rw [hq2, show (264 + 208 * (j : Int)) = ((q : Nat) : Int) by omega] at HAR
          unfold gV at HAR
          have HQ := Lib.hid hq
          have hq3 : q + 208 ≤ n := by omega
          clear hq hq1 hq2
          go_wp2_with fail
          refine HAR.out.mono ?_
          rintro e w6 ⟨rfl, h6⟩
          have HB6 := Lib.hid (HB.out.nw h6.nw)
          have HO6 := Lib.hid (show OutAt w6 bo (clr (ovTo g ws k) (q + 0)) by rw [HQ.out]; exact HO.out.nw h6.nw)
          have HU6 := Lib.hid (HU'.out.nw h6.nw)
          clear h6 c0 c1 c2 HAR HB HO
          go_wp2_with fail
          go_loopw [12] (fun v wq => ∃ i : Nat, i ≤ 208 ∧ v = .int .i64 i ∧ Blk wq bx #[.int .i64 g.w, .int .i64 g.i, .int .i64 g.b] 28 ∧ OutAt wq bo (clr (ovTo g ws k) (q + i)) ∧ Up bo w4 wq) (fun v _ => 208 - (intOf v).toNat)
          case atStart => exact ⟨0, by omega, rfl, HB6.out, HO6.out, HU6.out⟩
          case round =>
            clear HB6 HO6 HU6
            obtain ⟨i, hi, rfl, hb, ho, hup⟩ := hrel
            have HB := Lib.hid hb
            have HO := Lib.hid ho
            have HU' := Lib.hid hup
            clear hb ho hup
            by_cases hil : i < 208
            · have hil' : (i : Int) < 208 := by omega
              have hq264 : 264 ≤ q := by have := HQ.out; omega
              obtain ⟨z, hz⟩ : ∃ z : Nat, z = q + i := ⟨_, rfl⟩
              have hS := HO.out.set z 0
              rw [← hz, clr_succ _ z (by omega), show z + 1 = q + (i + 1) by omega] at hS
              have hcq : wr.cell? ⟨bo, z, none⟩ = some (.int .u64 ((clr (ovTo g ws k) (q + i))[z]?.getD 0)) := HO.out.at_ z (by rw [clr_len, ovTo_len, HX.out]; omega)
              have hfr : wr.frozen? ⟨bo, z, none⟩ = false := HO.out.ty.frozen z
              have HS := Lib.hid hS
              have HUd := Lib.hid (HU'.out.set z (.int .u64 0))
              have HBd := Lib.hid (HB.out.far bo z (.int .u64 0) (HB.out.tag.ne HO.out.ty (by decide)))
              have hwr : IntKind.i64.wrap ((q : Int) + (i : Int)) = (z : Int) := by rw [hz, show (q : Int) + (i : Int) = ((q + i : Nat) : Int) by omega]; exact IntWalk.i64_in _ (by omega)
              have hzn : (z : Int) < (n : Int) := by omega
              have hz0 : (0 : Int) ≤ (z : Int) := by omega
              have HZ := Lib.hid hz
              clear hz hS hq264
              generalize (clr (ovTo g ws k) (q + i))[z]?.getD 0 = y at hcq
              go_wp2_with fail
              go_roundw
              case rel => exact ⟨i + 1, by omega, by go_num, HBd.out, HS.out, HUd.out⟩
              case measure => simp [intOf]; omega
            · obtain rfl : i = 208 := by omega
              go_wp2_with fail
              go_roundw
              case rel => exact ⟨j + 1, by omega, by go_num, HB.out, by rw [show 264 + 208 * (j + 1) = q + 208 by have := HQ.out; omega]; exact HO.out, HU'.out⟩
              case measure => simp [intOf]; omega
        · obtain rfl : j = k := by omega
          go_wp2_with fail
          go_ret
          rw [HGT.out]
          have hlen : (clr (ovTo g ws j) (264 + 208 * j)).length = n := by rw [clr_len, ovTo_len, HX.out]
          refine ⟨_, co, by rw [hlen]; rfl, by rw [hlen]; exact hco, HO.out.ints, ⟨Up.below HN4.out.b HU'.out HN4.out.b.size (by rw [HBX.out]; rw [HBX.out] at HBW; exact HBW.out)⟩, .inr ⟨_, _, rfl⟩⟩
end Go.Proofs.YtkopfnldgnkkoaaGreat

/-
  OVER: both, of any words; Resume of no run.
-/
namespace Go.Proofs.YtkopfnldgnkkoaaGreat
open Go.RowKit Go.Shelf
set_option linter.unusedVariables false

theorem ints_shp {n₀ : Nat} {k : IntKind} {w : World} {a : Option Addr} {zs : List Int} {n c : Nat} (h : Ints n₀ k w a zs) (hz : zs.length = n) (h0 : 0 < n) : Shp a n c := by
  rcases h with rfl | ⟨b, off, rfl, _⟩
  · simp at hz; omega
  · exact .inr ⟨b, off, rfl⟩
theorem ov_pos {g : G} {n : Nat} (h : ovOk g n) : 0 < n := by
  have := words_pos h.1
  have := h.2
  omega
theorem over_any (g : G) (a : Option Addr) (n c n₀ : Nat) (ws : List Int) (hx : ws.length = n) (hnc : n ≤ c) (hn : n ≤ 1000000) (hu : ∀ x ∈ ws, u64 x) (w : World) (hn₀ : n₀ ≤ w.heap.size) (hI : Ints n₀ .u64 w a ws) :
    Calls Tryz.prog 32 #[gV g, .slice a n c] w (OvR (overL g ws) w) := by
  by_cases h : ovOk g n
  · exact over_yes g a n c n₀ ws hx (ints_shp hI hx (ov_pos h)) hnc hn hu h w hn₀ hI
  · rw [show overL g ws = [] from if_neg (by rw [hx]; exact h)]
    exact over_nil g a n c h w
theorem rover_any (g : G) (a : Option Addr) (n c n₀ : Nat) (ws : List Int) (hx : ws.length = n) (hnc : n ≤ c) (hn : n ≤ 1000000) (hu : ∀ x ∈ ws, u64 x) (w : World) (hn₀ : n₀ ≤ w.heap.size) (hI : Ints n₀ .u64 w a ws) :
    Calls Tryz.prog 33 #[gV g, .slice a n c] w (OvR (overL g ws) w) := by
  by_cases h : ovOk g n
  · exact rover_yes g a n c n₀ ws hx (ints_shp hI hx (ov_pos h)) hnc hn hu h w hn₀ hI
  · rw [show overL g ws = [] from if_neg (by rw [hx]; exact h)]
    exact rover_nil g a n c h w
theorem overL_le (g : G) (ws : List Int) : (overL g ws).length ≤ ws.length := by
  unfold overL
  by_cases h : ovOk g ws.length
  · rw [if_pos h, clr_len, ovTo_len]; exact Nat.le_refl _
  · rw [if_neg h]; exact Nat.zero_le _
set_option maxHeartbeats 1000000 in
theorem resume_nil (w : World) :
    Calls Tryz.prog 14 #[.pointer none] w fun e w' => e = .returned (.tuple #[.bool false, .int .i64 2]) ∧ w = w' := by
  go_enter Tryz.func14, Tryz.ntmps14
  go_wp2_with fail
  go_ret2
  exact ⟨rfl, rfl⟩
end Go.Proofs.YtkopfnldgnkkoaaGreat
