/-
  THE LAW'S PUTS AS ARGUMENTS; its geometry; what stands in no area (plain).
-/
import Derived.Test.YtkopfnldgnkkoaaOvP
import Derived.Test.YtkopfnldgnkkoaaOj
import Derived.Test.YtkopfnldgnkkoaaOpen
namespace Go.Proofs.Ytkopfnldgnkkoaa
open Go.ChangeShapes Go.WideShapes Go.Deep Go.RowKit Go.Shelf
set_option linter.unusedVariables false

/-- A put: where, the value. -/
structure Pu where
  q : Nat
  v : Int
def puC (x : Pu) : List Value := [.int .u8 x.q, .int .u64 x.v]
def puOk (x : Pu) : Prop := x.q ≤ 255 ∧ u64 x.v
theorem u8_of_wf9 {n : Int} (h : (Lit.int .u8 n).wf = true) : 0 ≤ n ∧ n ≤ 255 := by
  simp [Lit.wf, IntKind.min, IntKind.max, IntKind.bits, IntKind.signed] at h
  omega
theorem pus_of {H : Type} {enc : TypeId × Value → H} {P : Program} {w : World} {base : Nat} {spare : Nat → Bool} {held : Bool} {fs : Array Field} {f0 f1 : Field} (h0 : fs[0]? = some f0) (h1 : fs[1]? = some f1) (hn : fs.size = 2)
    (u0 : P.underlying f0.type = some (.int .u8)) (u1 : P.underlying f1.type = some (.int .u64)) {a : Option Addr} {len : Nat}
    (h : len = 0 ∨ ∃ b off, a = some ⟨b, off, none⟩ ∧ b < w.heap.size ∧ ∀ i, i < len → RecAt enc P w base spare held fs b off i) :
    ∃ ss : List Pu, ss.length = len ∧ Recs puC 2 w.heap.size w a ss ∧ ∀ x ∈ ss, puOk x :=
  recs_make puC 2 w.heap.size w a len puOk (by
    rcases h with h | ⟨b, off, e, hb, hi⟩
    · exact .inl h
    · refine .inr ⟨b, off, e, hb, fun i hil => ?_⟩
      obtain ⟨v0, n0, y0, c0, t0⟩ := hi i hil 0 f0 h0
      obtain ⟨v1, n1, y1, c1, t1⟩ := hi i hil 1 f1 h1
      obtain ⟨z0, q0, _, g0⟩ := DataW.trod_int u0 t0
      obtain ⟨z1, q1, _, g1⟩ := DataW.trod_int u1 t1
      obtain rfl : v0 = .int .u8 z0 := by simpa using q0
      obtain rfl : v1 = .int .u64 z1 := by simpa using q1
      obtain ⟨r0, r1⟩ := u8_of_wf9 g0
      obtain ⟨q, rfl⟩ := Int.eq_ofNat_of_zero_le r0
      rw [hn] at c0 c1
      refine ⟨⟨q, z1⟩, ⟨by show q ≤ 255; omega, u64_of_wfI g1⟩, fun j v hv => ?_⟩
      match j, hv with
      | 0, hv => simp [puC] at hv; subst hv; exact c0
      | 1, hv => simp [puC] at hv; subst hv; exact c1)
theorem pus_at {n₀ : Nat} {W : World} {a : Option Addr} {ss : List Pu} (h : Recs puC 2 n₀ W a ss) {k : Nat} (hk : k < ss.length) : ∃ b off, a = some ⟨b, off, none⟩ ∧ b < n₀ ∧ W.cell? ⟨b, off + k * 2, none⟩ = some (.int .u8 ss[k].q) ∧ W.cell? ⟨b, off + k * 2 + 1, none⟩ = some (.int .u64 ss[k].v) := by
  rcases h with rfl | ⟨b, off, rfl, hb, hc⟩
  · simp at hk
  · exact ⟨b, off, rfl, hb, hc k hk 0 _ rfl, hc k hk 1 _ rfl⟩

/-- The law's geometry. -/
def geoG (a b c : Nat) : G := ⟨1 + ((a % 4 : Nat) : Int), 2 + ((b % 8 : Nat) : Int), 2 + ((c % 20 : Nat) : Int)⟩
theorem geo_may (a b c : Nat) : mayP (geoG a b c) := by
  unfold mayP geoG; dsimp only; omega
set_option maxHeartbeats 1000000 in
theorem geo_any (a b c : Nat) (ha : a ≤ 255) (hb : b ≤ 255) (hc : c ≤ 255) (w : World) :
    Calls Try.prog 17 #[.int .u8 a, .int .u8 b, .int .u8 c] w fun e w' => e = .returned (gV (geoG a b c)) ∧ Nw w w' := by
  have r1 : (a : Int).tmod 4 = ((a % 4 : Nat) : Int) := by rw [Int.tmod_eq_emod_of_nonneg (by omega)]; omega
  have r2 : (b : Int).tmod 8 = ((b % 8 : Nat) : Int) := by rw [Int.tmod_eq_emod_of_nonneg (by omega)]; omega
  have r3 : (c : Int).tmod 20 = ((c % 20 : Nat) : Int) := by rw [Int.tmod_eq_emod_of_nonneg (by omega)]; omega
  have e1 : a % 4 < 4 := by omega
  have e2 : b % 8 < 8 := by omega
  have e3 : c % 20 < 20 := by omega
  unfold geoG gV
  dsimp only
  generalize a % 4 = x1 at *
  generalize b % 8 = x2 at *
  generalize c % 20 = x3 at *
  have hn1 := (Nw.refl (w := w)).alloc (.cells #[.int .i64 0, .int .i64 0, .int .i64 0] 25)
  go_enter Try.func17, Try.ntmps17
  go_wp2_with fail
  refine bodyPost_ret (results_cell_row rfl _ _ _ 25 #[.int .i64 (1 + (x1 : Int)), .int .i64 (2 + (x2 : Int)), .int .i64 (2 + (x3 : Int))] (0, 0) _ rfl (heap_alloc_new _ _) Try.underlying25 rfl (by kernel_rfl)) rfl ?_
  exact ⟨rfl, (Nw.refl (w := w)).alloc _⟩

theorem fmtL_u64 {g : G} (hm : mayP g) : ∀ x ∈ fmtL g, u64 x := by
  have hs : ∀ (zs : List Int) (k : Nat) (v : Int), (∀ x ∈ zs, u64 x) → u64 v → ∀ x ∈ zs.set k v, u64 x := fun zs k v h hv x hx => by
    rcases List.mem_or_eq_of_mem_set hx with hx | rfl
    · exact h x hx
    · exact hv
  obtain ⟨g1, g2, g3, g4, g5, g6⟩ := hm
  unfold fmtL
  refine hs _ _ _ (hs _ _ _ (hs _ _ _ (hs _ _ _ (hs _ _ _ (hs _ _ _ (hs _ _ _ (hs _ _ _ (fun x hx => ?_) ?_) ?_) ?_) ?_) ?_) ?_) ?_) ?_
  · rw [List.eq_of_mem_replicate hx]; unfold u64; omega
  all_goals (unfold u64; omega)
/-- No commit word stands. -/
def NoCom (g : G) (zs : List Int) : Prop := ∀ j : Nat, (j : Int) < g.w → zs[264 + 208 * j]?.getD 0 = 0
theorem fmtL_noCom {g : G} (hm : mayP g) : NoCom g (fmtL g) := by
  intro j hj
  obtain ⟨g1, g2, g3, g4, g5, g6⟩ := hm
  unfold fmtL
  rw [List.getElem?_set_ne (by omega), List.getElem?_set_ne (by omega), List.getElem?_set_ne (by omega), List.getElem?_set_ne (by omega), List.getElem?_set_ne (by omega), List.getElem?_set_ne (by omega), List.getElem?_set_ne (by omega), List.getElem?_set_ne (by omega), List.getElem?_replicate]
  by_cases h : 264 + 208 * j < (atN g 7).toNat
  · rw [if_pos h]; rfl
  · rw [if_neg h]; rfl
theorem NoCom.set {g : G} {zs : List Int} (h : NoCom g zs) (q : Nat) (v : Int) (hq : ∀ j : Nat, (j : Int) < g.w → q ≠ 264 + 208 * j) : NoCom g (zs.set q v) := fun j hj => by
  rw [List.getElem?_set_ne (hq j hj)]; exact h j hj
theorem NoCom.over {g : G} {zs : List Int} (h : NoCom g zs) (ho : ovOk g zs.length) : overL g zs = clr zs (264 + 208 * g.w.toNat) :=
  overL_zero ho fun j hj => (hd_area zs j).trans (h j hj)
theorem Row.out {w : World} {b : Nat} {zs : List Int} (h : Row w b 39 .u64 zs) : OutAt w b zs := ⟨⟨_, h⟩, fun j hj => h.cellD hj⟩
/-- The kind of a word. -/
theorem where_area {g : G} (hm : mayP g) {x : Int} (h0 : 0 ≤ x) (h7 : x < atN g 7) : ((whereV g x).1 = 5) ↔ (264 ≤ x ∧ x < 264 + 208 * g.w) := by
  have hm' := hm
  obtain ⟨g1, g2, g3, g4, g5, g6⟩ := hm
  simp only [atN] at h7
  by_cases a1 : x < 8
  · rw [where_row hm' (n := 0) (by decide) h0 (by simpa [atN] using h0) (by simpa [atN] using a1)]
    simp [kindN]; omega
  by_cases a2 : x < 264
  · rw [where_row hm' (n := 1) (by decide) h0 (by simp [atN]; omega) (by simp [atN]; omega), if_pos rfl]
    unfold inSessV
    split
    · simp; omega
    · split
      · simp; omega
      · simp; omega
  by_cases a3 : x < 264 + 208 * g.w
  · rw [where_row hm' (n := 2) (by decide) h0 (by simp [atN]; omega) (by simp [atN]; omega)]
    simp [kindN]; omega
  by_cases a4 : x < 272 + 208 * g.w
  · rw [where_row hm' (n := 3) (by decide) h0 (by simp [atN]; omega) (by simp [atN]; omega)]
    simp [kindN]; omega
  by_cases a5 : x < 280 + 208 * g.w
  · rw [where_row hm' (n := 4) (by decide) h0 (by simp [atN]; omega) (by simp [atN]; omega)]
    simp [kindN]; omega
  by_cases a6 : x < 280 + 208 * g.w + 16 * g.i
  · rw [where_row hm' (n := 5) (by decide) h0 (by simp [atN]; omega) (by simp [atN]; omega)]
    simp [kindN]; omega
  · rw [where_row hm' (n := 6) (by decide) h0 (by simp [atN]; omega) (by simp [atN]; omega)]
    simp [kindN]; omega
end Go.Proofs.Ytkopfnldgnkkoaa
