import Derived.Test.YtkopfnldgnkkoaaGreatOvH
import Derived.Lib.SmallJoins
import Derived.Test.YtkopfnldgnkkoaaGreatOpen

/-
  OVER: plain laws: words without commit words; Over of Over.
-/
namespace Go.Proofs.YtkopfnldgnkkoaaGreat
open Go.RowKit Go.Shelf
set_option linter.unusedVariables false

theorem comL_zero {g : G} {ar : List Int} (h : hd ar = 0) : comL g ar = [] := comL_no (by unfold comOk; rw [h]; simp)
theorem ovTo_zero {g : G} {ws : List Int} : ∀ k, (∀ j, j < k → hd (areaL ws j) = 0) → ovTo g ws k = ws
  | 0, _ => rfl
  | k + 1, h => by
    show putsL (ovTo g ws k) (comL g (areaL ws k)) = ws
    rw [ovTo_zero k fun j hj => h j (by omega), comL_zero (h k (by omega))]
    rfl
/-- Of words in which no commit word stands. -/
theorem overL_zero {g : G} {ws : List Int} (ho : ovOk g ws.length) (h : ∀ j : Nat, (j : Int) < g.w → hd (areaL ws j) = 0) : overL g ws = clr ws (264 + 208 * g.w.toNat) := by
  unfold overL
  rw [if_pos ho, ovTo_zero _ fun j hj => h j (by omega)]
theorem hd_area (ws : List Int) (k : Nat) : hd (areaL ws k) = ws[264 + 208 * k]?.getD 0 := by
  unfold hd areaL
  rw [List.getElem?_take_of_lt (by omega), List.getElem?_drop, Nat.add_zero]
theorem clr_clr (zs : List Int) (q : Nat) : clr (clr zs q) q = clr zs q := by
  refine List.ext_getElem? fun i => ?_
  rw [clr_at, clr_at]
  cases zs[i]? with
  | none => rfl
  | some z =>
    simp only [Option.map_some]
    by_cases h : 264 ≤ i ∧ i < q
    · rw [if_pos h, if_pos h]
    · rw [if_neg h, if_neg h]
theorem overL_overL (g : G) (ws : List Int) (ho : ovOk g ws.length) : overL g (overL g ws) = overL g ws := by
  have e : overL g ws = clr (ovTo g ws g.w.toNat) (264 + 208 * g.w.toNat) := if_pos ho
  have hl : (clr (ovTo g ws g.w.toNat) (264 + 208 * g.w.toNat)).length = ws.length := by rw [clr_len, ovTo_len]
  rw [e, overL_zero (by rw [hl]; exact ho), clr_clr]
  intro j hj
  rw [hd_area, clr_at]
  cases (ovTo g ws g.w.toNat)[264 + 208 * j]? with
  | none => rfl
  | some z => simp only [Option.map_some, Option.getD_some]; rw [if_pos (by omega)]
theorem putsL_u64 {l : List Wr} : ∀ {zs : List Int}, (∀ x ∈ zs, u64 x) → (∀ x ∈ l, u64 x.2) → ∀ x ∈ putsL zs l, u64 x := by
  induction l with
  | nil => exact fun h _ => h
  | cons y l ih =>
    intro zs h hl
    refine ih (zs := zs.set y.1.toNat y.2) (fun x hx => ?_) fun x hx => hl x (List.mem_cons_of_mem _ hx)
    rcases List.mem_or_eq_of_mem_set hx with hx | rfl
    · exact h x hx
    · exact hl y List.mem_cons_self
theorem readL_u64 {g : G} {ws : List Int} (h : ∀ x ∈ ws, u64 x) : ∀ x ∈ readL g ws, u64 x.2 := by
  intro x hx
  unfold readL at hx
  by_cases hr : readOk g ws = true
  · rw [if_pos hr] at hx
    simp only [pairsN, List.mem_map, List.mem_range] at hx
    obtain ⟨i, _, rfl⟩ := hx
    show u64 (ws[2 + 2 * i]?.getD 0)
    cases e : ws[2 + 2 * i]? with
    | none => exact ⟨by simp, by simp⟩
    | some v => exact h v (List.mem_of_getElem? e)
  · rw [if_neg hr] at hx; cases hx
theorem overL_u64 {g : G} {ws : List Int} (h : ∀ x ∈ ws, u64 x) : ∀ x ∈ overL g ws, u64 x := by
  have ht : ∀ k, ∀ x ∈ ovTo g ws k, u64 x := by
    intro k
    induction k with
    | zero => exact h
    | succ k ih =>
      refine putsL_u64 ih fun x hx => ?_
      unfold comL at hx
      by_cases hc : comOk g (areaL ws k) = true
      · rw [if_pos hc] at hx
        exact readL_u64 (fun y hy => h y (areaL_mem (List.mem_of_mem_drop hy))) x hx
      · rw [if_neg hc] at hx; cases hx
  intro x hx
  unfold overL at hx
  by_cases ho : ovOk g ws.length
  · rw [if_pos ho] at hx
    unfold clr at hx
    rw [List.mem_mapIdx] at hx
    obtain ⟨i, hi, rfl⟩ := hx
    by_cases hb : 264 ≤ i ∧ i < 264 + 208 * g.w.toNat
    · rw [if_pos hb]; exact ⟨by simp, by simp⟩
    · rw [if_neg hb]; exact ht _ _ (List.getElem_mem _)
  · rw [if_neg ho] at hx; cases hx
end Go.Proofs.YtkopfnldgnkkoaaGreat

/-
  OPENING: geometries, words.
-/
namespace Go.Proofs.YtkopfnldgnkkoaaGreat
open Go.RowKit Go.Shelf
set_option linter.unusedVariables false

theorem u64_of_wfI {n : Int} (h : (Lit.int .u64 n).wf = true) : u64 n := by
  simp [Lit.wf, IntKind.min, IntKind.max, IntKind.bits, IntKind.signed] at h
  exact ⟨by omega, by omega⟩
end Go.Proofs.YtkopfnldgnkkoaaGreat

/-
  THE LAW'S PUTS AS ARGUMENTS; its geometry; what stands in no area (plain).
-/
namespace Go.Proofs.YtkopfnldgnkkoaaGreat
open Go.ChangeShapes Go.WideShapes Go.Deep Go.RowKit Go.Shelf
set_option linter.unusedVariables false

/-- A put: where, the value. -/
structure Pu where
  q : Nat
  v : Int
def puC (x : Pu) : List Value := [.int .u8 x.q, .int .u64 x.v]
def puOk (x : Pu) : Prop := x.q ≤ 255 ∧ u64 x.v
theorem u8_of_wf9 {n : Int} (h : (Lit.int .u8 n).wf = true) : 0 ≤ n ∧ n ≤ 255 := by
  simp [Lit.wf, IntKind.min, IntKind.max, IntKind.bits, IntKind.signed] at h
  omega
theorem pus_of {H : Type} {enc : TypeId × Value → H} {P : Program} {w : World} {base : Nat} {spare : Nat → Bool} {held : Bool} {fs : Array Field} {f0 f1 : Field} (h0 : fs[0]? = some f0) (h1 : fs[1]? = some f1) (hn : fs.size = 2)
    (u0 : P.underlying f0.type = some (.int .u8)) (u1 : P.underlying f1.type = some (.int .u64)) {a : Option Addr} {len : Nat}
    (h : len = 0 ∨ ∃ b off, a = some ⟨b, off, none⟩ ∧ b < w.heap.size ∧ ∀ i, i < len → RecAt enc P w base spare held fs b off i) :
    ∃ ss : List Pu, ss.length = len ∧ Recs puC 2 w.heap.size w a ss ∧ ∀ x ∈ ss, puOk x :=
  recs_make puC 2 w.heap.size w a len puOk (by
    rcases h with h | ⟨b, off, e, hb, hi⟩
    · exact .inl h
    · refine .inr ⟨b, off, e, hb, fun i hil => ?_⟩
      obtain ⟨v0, n0, y0, c0, t0⟩ := hi i hil 0 f0 h0
      obtain ⟨v1, n1, y1, c1, t1⟩ := hi i hil 1 f1 h1
      obtain ⟨z0, q0, _, g0⟩ := DataW.trod_int u0 t0
      obtain ⟨z1, q1, _, g1⟩ := DataW.trod_int u1 t1
      obtain rfl : v0 = .int .u8 z0 := by simpa using q0
      obtain rfl : v1 = .int .u64 z1 := by simpa using q1
      obtain ⟨r0, r1⟩ := u8_of_wf9 g0
      obtain ⟨q, rfl⟩ := Int.eq_ofNat_of_zero_le r0
      rw [hn] at c0 c1
      refine ⟨⟨q, z1⟩, ⟨by show q ≤ 255; omega, u64_of_wfI g1⟩, fun j v hv => ?_⟩
      match j, hv with
      | 0, hv => simp [puC] at hv; subst hv; exact c0
      | 1, hv => simp [puC] at hv; subst hv; exact c1)
theorem pus_at {n₀ : Nat} {W : World} {a : Option Addr} {ss : List Pu} (h : Recs puC 2 n₀ W a ss) {k : Nat} (hk : k < ss.length) : ∃ b off, a = some ⟨b, off, none⟩ ∧ b < n₀ ∧ W.cell? ⟨b, off + k * 2, none⟩ = some (.int .u8 ss[k].q) ∧ W.cell? ⟨b, off + k * 2 + 1, none⟩ = some (.int .u64 ss[k].v) := by
  rcases h with rfl | ⟨b, off, rfl, hb, hc⟩
  · simp at hk
  · exact ⟨b, off, rfl, hb, hc k hk 0 _ rfl, hc k hk 1 _ rfl⟩

/-- The law's geometry. -/
def geoG (a b c : Nat) : G := ⟨1 + ((a % 4 : Nat) : Int), 2 + ((b % 8 : Nat) : Int), 2 + ((c % 20 : Nat) : Int)⟩
theorem geo_may (a b c : Nat) : mayP (geoG a b c) := by
  unfold mayP geoG; dsimp only; omega
set_option maxHeartbeats 1000000 in
theorem geo_any (a b c : Nat) (ha : a ≤ 255) (hb : b ≤ 255) (hc : c ≤ 255) (w : World) :
    Calls Tryz.prog 7 #[.int .u8 a, .int .u8 b, .int .u8 c] w fun e w' => e = .returned (gV (geoG a b c)) ∧ Nw w w' := by
  have r1 : (a : Int).tmod 4 = ((a % 4 : Nat) : Int) := by rw [Int.tmod_eq_emod_of_nonneg (by omega)]; omega
  have r2 : (b : Int).tmod 8 = ((b % 8 : Nat) : Int) := by rw [Int.tmod_eq_emod_of_nonneg (by omega)]; omega
  have r3 : (c : Int).tmod 20 = ((c % 20 : Nat) : Int) := by rw [Int.tmod_eq_emod_of_nonneg (by omega)]; omega
  have e1 : a % 4 < 4 := by omega
  have e2 : b % 8 < 8 := by omega
  have e3 : c % 20 < 20 := by omega
  unfold geoG gV
  dsimp only
  generalize a % 4 = x1 at *
  generalize b % 8 = x2 at *
  generalize c % 20 = x3 at *
  have hn1 := (Nw.refl (w := w)).alloc (.cells #[.int .i64 0, .int .i64 0, .int .i64 0] 26)
  go_enter Tryz.func7, Tryz.ntmps7
  go_wp2_with fail
  refine bodyPost_ret (results_cell_row rfl _ _ _ 26 #[.int .i64 (1 + (x1 : Int)), .int .i64 (2 + (x2 : Int)), .int .i64 (2 + (x3 : Int))] (0, 0) _ rfl (heap_alloc_new _ _) Tryz.underlying26 rfl (by kernel_rfl)) rfl ?_
  exact ⟨rfl, (Nw.refl (w := w)).alloc _⟩

theorem fmtL_u64 {g : G} (hm : mayP g) : ∀ x ∈ fmtL g, u64 x := by
  have hs : ∀ (zs : List Int) (k : Nat) (v : Int), (∀ x ∈ zs, u64 x) → u64 v → ∀ x ∈ zs.set k v, u64 x := fun zs k v h hv x hx => by
    rcases List.mem_or_eq_of_mem_set hx with hx | rfl
    · exact h x hx
    · exact hv
  obtain ⟨g1, g2, g3, g4, g5, g6⟩ := hm
  unfold fmtL
  refine hs _ _ _ (hs _ _ _ (hs _ _ _ (hs _ _ _ (hs _ _ _ (hs _ _ _ (hs _ _ _ (hs _ _ _ (fun x hx => ?_) ?_) ?_) ?_) ?_) ?_) ?_) ?_) ?_
  · rw [List.eq_of_mem_replicate hx]; unfold u64; omega
  all_goals (unfold u64; omega)
/-- No commit word stands. -/
def NoCom (g : G) (zs : List Int) : Prop := ∀ j : Nat, (j : Int) < g.w → zs[264 + 208 * j]?.getD 0 = 0
theorem fmtL_noCom {g : G} (hm : mayP g) : NoCom g (fmtL g) := by
  intro j hj
  obtain ⟨g1, g2, g3, g4, g5, g6⟩ := hm
  unfold fmtL
  rw [List.getElem?_set_ne (by omega), List.getElem?_set_ne (by omega), List.getElem?_set_ne (by omega), List.getElem?_set_ne (by omega), List.getElem?_set_ne (by omega), List.getElem?_set_ne (by omega), List.getElem?_set_ne (by omega), List.getElem?_set_ne (by omega), List.getElem?_replicate]
  by_cases h : 264 + 208 * j < (atN g 7).toNat
  · rw [if_pos h]; rfl
  · rw [if_neg h]; rfl
theorem NoCom.set {g : G} {zs : List Int} (h : NoCom g zs) (q : Nat) (v : Int) (hq : ∀ j : Nat, (j : Int) < g.w → q ≠ 264 + 208 * j) : NoCom g (zs.set q v) := fun j hj => by
  rw [List.getElem?_set_ne (hq j hj)]; exact h j hj
theorem NoCom.over {g : G} {zs : List Int} (h : NoCom g zs) (ho : ovOk g zs.length) : overL g zs = clr zs (264 + 208 * g.w.toNat) :=
  overL_zero ho fun j hj => (hd_area zs j).trans (h j hj)
theorem Row.out {w : World} {b : Nat} {zs : List Int} (h : Row w b 44 .u64 zs) : OutAt w b zs := ⟨⟨_, h⟩, fun j hj => h.cellD hj⟩
/-- The kind of a word. -/
theorem where_area {g : G} (hm : mayP g) {x : Int} (h0 : 0 ≤ x) (h7 : x < atN g 7) : ((whereV g x).1 = 5) ↔ (264 ≤ x ∧ x < 264 + 208 * g.w) := by
  have hm' := hm
  obtain ⟨g1, g2, g3, g4, g5, g6⟩ := hm
  simp only [atN] at h7
  by_cases a1 : x < 8
  · rw [where_row hm' (n := 0) (by decide) h0 (by simpa [atN] using h0) (by simpa [atN] using a1)]
    simp [kindN]; omega
  by_cases a2 : x < 264
  · rw [where_row hm' (n := 1) (by decide) h0 (by simp [atN]; omega) (by simp [atN]; omega), if_pos rfl]
    unfold inSessV
    split
    · simp; omega
    · split
      · simp; omega
      · simp; omega
  by_cases a3 : x < 264 + 208 * g.w
  · rw [where_row hm' (n := 2) (by decide) h0 (by simp [atN]; omega) (by simp [atN]; omega)]
    simp [kindN]; omega
  by_cases a4 : x < 272 + 208 * g.w
  · rw [where_row hm' (n := 3) (by decide) h0 (by simp [atN]; omega) (by simp [atN]; omega)]
    simp [kindN]; omega
  by_cases a5 : x < 280 + 208 * g.w
  · rw [where_row hm' (n := 4) (by decide) h0 (by simp [atN]; omega) (by simp [atN]; omega)]
    simp [kindN]; omega
  by_cases a6 : x < 280 + 208 * g.w + 16 * g.i
  · rw [where_row hm' (n := 5) (by decide) h0 (by simp [atN]; omega) (by simp [atN]; omega)]
    simp [kindN]; omega
  · rw [where_row hm' (n := 6) (by decide) h0 (by simp [atN]; omega) (by simp [atN]; omega)]
    simp [kindN]; omega
end Go.Proofs.YtkopfnldgnkkoaaGreat
