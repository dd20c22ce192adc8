import Derived.Test.YtkopfnldgnkkoaaGreatProg
import Derived.Test.YtkopfnldgnkkoaaGreatLib
import Derived.Test.YtkopfnldgnkkoaaGreatRcM

/-
  THE WALKS OF layout.within, May, rows (the global is not read here).
-/
namespace Go.Proofs.YtkopfnldgnkkoaaGreat
open Go.RowKit

/-- FROM w0 ON ONLY NEW MEMORY. -/
structure At (w0 w : World) : Prop where
  b : Below w0.heap.size w0 w
theorem At.alloc {w0 w : World} (h : At w0 w) (o : Obj) : At w0 (w.alloc o) := ⟨h.b.alloc h.b.size o⟩
theorem At.drew {w0 w : World} (h : At w0 w) : At w0 w.drew := ⟨h.b.drew⟩
theorem At.drewN {w0 w : World} (h : At w0 w) (n : Nat) : At w0 (w.drewN n) := ⟨below_drewN h.b n⟩
theorem At.trans {a b c : World} (h : At a b) (k : At b c) : At a c := ⟨h.b.trans (k.b.mono h.b.size)⟩
theorem At.refl {w : World} : At w w := ⟨Below.refl _ _⟩
theorem At.self {w0 w : World} (_h : At w0 w) : At w w := At.refl

/-- A geometry as a value. -/
def gV (g : G) : Value := .agg #[.int .i64 g.w, .int .i64 g.i, .int .i64 g.b]
def inB (n a b : Int) : Bool := decide (a ≤ n ∧ n ≤ b)

/-- A box that holds a geometry. -/
structure Box (w : World) (b : Nat) (g : G) : Prop where
  c0 : w.cell? ⟨b, 0, none⟩ = some (.int .i64 g.w)
  c1 : w.cell? ⟨b, 1, none⟩ = some (.int .i64 g.i)
  c2 : w.cell? ⟨b, 2, none⟩ = some (.int .i64 g.b)
theorem Box.new (w : World) (g : G) (t : TypeId) : Box (w.alloc (.cells #[.int .i64 g.w, .int .i64 g.i, .int .i64 g.b] t)) w.heap.size g :=
  ⟨by simp, by simp, by simp⟩
theorem Box.at {w w1 : World} {b : Nat} {g : G} (h : Box w b g) (k : At w w1) : Box w1 b g :=
  ⟨(k.b.cell (p := ⟨b, 0, none⟩) (cell_lt h.c0).1).trans h.c0, (k.b.cell (p := ⟨b, 1, none⟩) (cell_lt h.c0).1).trans h.c1, (k.b.cell (p := ⟨b, 2, none⟩) (cell_lt h.c0).1).trans h.c2⟩
theorem Box.alloc {w : World} {b : Nat} {g : G} (h : Box w b g) (o : Obj) : Box (w.alloc o) b g := by
  have hb := (cell_lt h.c0).1
  exact ⟨(World.cell?_alloc_past o b 0 hb).trans h.c0, (World.cell?_alloc_past o b 1 hb).trans h.c1, (World.cell?_alloc_past o b 2 hb).trans h.c2⟩

set_option maxHeartbeats 400000 in
theorem within_any (n a b : Int) (w : World) :
    Calls Tryz.prog 105 #[.int .i64 n, .int .i64 a, .int .i64 b] w fun e w' => e = .returned (.bool (inB n a b)) ∧ w = w' := by
  by_cases h1 : a ≤ n
  · by_cases h2 : n ≤ b
    · have hd : inB n a b = true := by simp [inB, h1, h2]
      rw [hd]; clear hd
      go_enter Tryz.func105, Tryz.ntmps105
      go_wp2
      go_ret
      exact ⟨rfl, rfl⟩
    · have hd : inB n a b = false := by simp [inB, h2]
      rw [hd]; clear hd
      go_enter Tryz.func105, Tryz.ntmps105
      go_wp2
      go_ret
      exact ⟨rfl, rfl⟩
  · have hd : inB n a b = false := by simp [inB, h1]
    rw [hd]; clear hd
    go_enter Tryz.func105, Tryz.ntmps105
    go_wp2
    go_ret
    exact ⟨rfl, rfl⟩

set_option maxHeartbeats 400000 in
theorem may_any {w0 w : World} (g : G) (h : At w0 w) :
    Calls Tryz.prog 82 #[gV g] w fun e w' => e = .returned (.bool (mayB g)) ∧ At w0 w' := by
  obtain ⟨x, y, z⟩ := g
  unfold gV
  dsimp only
  have hm : mayB ⟨x, y, z⟩ = (inB x 1 4 && inB y 2 64 && inB z 2 512) := by
    rw [Bool.eq_iff_iff, mayB_true]; simp only [mayP, inB, Bool.and_eq_true, decide_eq_true_eq]; omega
  rw [hm]; clear hm
  cases h1 : inB x 1 4
  · have H1 := Lib.hid h1
    clear h1
    go_enter Tryz.func82, Tryz.ntmps82
    go_wp2_with (go_at_call 105; refine (within_any _ _ _ _).mono ?_; rintro e w' ⟨rfl, rfl⟩; rw [H1.out])
    go_ret
    exact ⟨rfl, h.alloc _⟩
  · have H1 := Lib.hid h1
    clear h1
    cases h2 : inB y 2 64
    · have H2 := Lib.hid h2
      clear h2
      go_enter Tryz.func82, Tryz.ntmps82
      go_wp2_with (go_at_call 105; refine (within_any _ _ _ _).mono ?_; rintro e w' ⟨rfl, rfl⟩; first | rw [H1.out] | rw [H2.out])
      go_ret
      exact ⟨rfl, h.alloc _⟩
    · have H2 := Lib.hid h2
      clear h2
      go_enter Tryz.func82, Tryz.ntmps82
      go_wp2_with (go_at_call 105; refine (within_any _ _ _ _).mono ?_; rintro e w' ⟨rfl, rfl⟩; try first | rw [H1.out] | rw [H2.out])
      go_ret
      exact ⟨rfl, h.alloc _⟩

/-- The array of rows, cell by cell. -/
def rowsC (g : G) : Array Value := #[.int .u8 1, .int .i64 8, .int .i64 1, .int .u8 2, .int .i64 64, .int .i64 4, .int .u8 5, .int .i64 208, .int .i64 g.w, .int .u8 6, .int .i64 8, .int .i64 1, .int .u8 7, .int .i64 8, .int .i64 1, .int .u8 8, .int .i64 16, .int .i64 g.i, .int .u8 9, .int .i64 8, .int .i64 g.b]
theorem setRow_alloc (w : World) (old cs : Array Value) (t : TypeId) : (w.alloc (.cells old t)).setRow w.heap.size cs = w.alloc (.cells cs t) := by
  show ({ w with heap := (w.heap.push (.cells old t)).modify w.heap.size _ } : World) = { w with heap := w.heap.push (.cells cs t) }
  congr 1
  apply Array.ext
  · simp
  · intro i h1 h2
    by_cases hi : i = w.heap.size
    · subst hi; simp [Array.getElem_modify_self]
    · rw [Array.getElem_modify_of_ne (Ne.symm hi)]
      simp at h1
      rw [Array.getElem_push_lt (by omega), Array.getElem_push_lt (by omega)]
theorem setRow_alloc2 (w : World) (A : Obj) (old cs : Array Value) (t : TypeId) : ((w.alloc A).alloc (.cells old t)).setRow (w.heap.size + 1) cs = (w.alloc A).alloc (.cells cs t) := by
  have := setRow_alloc (w.alloc A) old cs t
  rwa [World.size_alloc] at this

theorem wpList_build_as {P : Program} {ops : Array Oper} {rest : List Oper} {o : Oper} {a : Act} {w : World} {Q : Exit → Act → World → Prop} (hg : o.guard = none) (t : TypeId) (parts : Array (Nat × Operand)) (ho : o.op = .build t parts)
    (cs : Array Value) (hf : P.built t (parts.map fun (i, x) => (i, a.eval x)).toList = some cs)
    (h : wpList P ops Q rest (a.put o.dst (.agg cs)) w) : wpList P ops Q (o :: rest) a w :=
  wpList_build hg t parts ho (by rw [hf]; rfl) (by rw [hf]; exact h)

set_option maxRecDepth 100000 in
set_option maxHeartbeats 1000000 in
theorem rows_any {w0 w : World} (g : G) (h : At w0 w) :
    Calls Tryz.prog 86 #[gV g] w fun e w' => e = .returned (.agg (rowsC g)) ∧ At w0 w' := by
  obtain ⟨x, y, z⟩ := g
  unfold gV
  dsimp only
  go_enter Tryz.func86, Tryz.ntmps86
  go_wp2_with (first | (refine wpList_build_as rfl 154 _ rfl (rowsC ⟨x, y, z⟩) (by kernel_rfl) ?_) | (refine wpList_store_row rfl 154 (.tmp 2) (.tmp 16) rfl _ (rowsC ⟨x, y, z⟩) rfl rfl 154 _ (heap_alloc2_new _ _ _) (by kernel_rfl) (by rfl) (by simp [rowsC, Value.oneCell']) ?_; rw [setRow_alloc2]))
  refine bodyPost_ret (results_cell_row rfl _ _ _ 154 (rowsC ⟨x, y, z⟩) (0, 0) _ rfl (heap_alloc2_new _ _ _) Tryz.underlying154 rfl (by kernel_rfl)) rfl ?_
  exact ⟨rfl, (h.alloc _).alloc _⟩

theorem index_row (g : G) {n : Nat} (h : n < 7) (w : World) :
    (Instr.index 154 (.agg (rowsC g)) (.int .i64 (n : Int))).run Tryz.prog w = .ok (.agg #[.int .u8 (kindN n), .int .i64 (sizeN n), .int .i64 (manyN g n)]) w :=
  match n, h with
  | 0, _ => by kernel_rfl
  | 1, _ => by kernel_rfl
  | 2, _ => by kernel_rfl
  | 3, _ => by kernel_rfl
  | 4, _ => by kernel_rfl
  | 5, _ => by kernel_rfl
  | 6, _ => by kernel_rfl

end Go.Proofs.YtkopfnldgnkkoaaGreat

/-
  THE WALKS OF layout.inSession, Where.
-/
namespace Go.Proofs.YtkopfnldgnkkoaaGreat
open Go.RowKit

/-- Four numbers, the first of the kind k. -/
def four (k : IntKind) (x : Int × Int × Int × Int) : Value := .tuple #[.int k x.1, .int .i64 x.2.1, .int .i64 x.2.2.1, .int .i64 x.2.2.2]

set_option maxHeartbeats 400000 in
theorem in_session (i r : Int) (h0 : 0 ≤ r) (h1 : r < 64) (w : World) :
    Calls Tryz.prog 106 #[.int .i64 i, .int .i64 r] w fun e w' => e = .returned (four .u8 (inSessV i r)) ∧ w = w' := by
  by_cases e1 : r < 8
  · have HV := Lib.hid (show inSessV i r = (2, i, 0, r) from if_pos e1)
    go_enter Tryz.func106, Tryz.ntmps106
    go_wp2_with fail
    refine bodyPost_ret (results_tmp4 rfl _ _ _) rfl ?_
    exact ⟨by rw [HV.out]; rfl, rfl⟩
  · by_cases e2 : r < 56
    · have HV := Lib.hid (show inSessV i r = (3, i, (r - 8) / 12, (r - 8) % 12) from (if_neg e1).trans (if_pos e2))
      go_enter Tryz.func106, Tryz.ntmps106
      go_wp2_with fail
      refine bodyPost_ret (results_tmp4 rfl _ _ _) rfl ?_
      exact ⟨by rw [HV.out]; rfl, rfl⟩
    · have HV := Lib.hid (show inSessV i r = (4, i, (r - 56) / 2, (r - 56) % 2) from (if_neg e1).trans (if_neg e2))
      go_enter Tryz.func106, Tryz.ntmps106
      go_wp2_with fail
      refine bodyPost_ret (results_tmp4 rfl _ _ _) rfl ?_
      exact ⟨by rw [HV.out, show r - 56 = r - 8 - 48 by omega]; rfl, rfl⟩

set_option maxRecDepth 100000 in
set_option maxHeartbeats 2000000 in
theorem where_yes {w0 w : World} (g : G) (x : Int) (hm : mayP g) (hx : 0 ≤ x) (hx2 : x ≤ 9223372036854775807) (h : At w0 w) :
    Calls Tryz.prog 91 #[gV g, .int .i64 x] w fun e w' => e = .returned (four .u8 (whereV g x)) ∧ At w0 w' := by
  have Hmb := Lib.hid (mayB_true.2 hm)
  unfold gV
  go_enter Tryz.func91, Tryz.ntmps91
  go_wp2_with fail
  refine (may_any g (h.alloc _).self).mono ?_
  rintro e w1 ⟨rfl, k1⟩
  have b1 := (Box.new w g _).at k1
  have h1 := (h.alloc _).trans k1
  clear k1 h
  rw [Hmb.out]
  have hc0 := b1.c0
  have hc1 := b1.c1
  have hc2 := b1.c2
  go_wp2_with fail
  refine (rows_any g h1).mono ?_
  rintro e w2 ⟨rfl, h2⟩
  clear hc0 hc1 hc2 b1 h1
  go_wp2_with fail
  go_loopw [1, 20] (fun s i wr => ∃ n : Nat, n ≤ 7 ∧ i = .int .i64 n ∧ s = .int .i64 (x - atN g n) ∧ atN g n ≤ x ∧ At w0 wr) (fun _ i _ => 7 - (intOf i).toNat)
  case atStart => exact ⟨0, by omega, rfl, by simp [atN], by simp [atN]; exact hx, h2⟩
  case round =>
    clear h2
    obtain ⟨n, hn, rfl, rfl, hat, hr⟩ := hrel
    by_cases hlt : n < 7
    · have hix := index_row g hlt
      have hs := atN_succ g hlt
      have HS := Lib.hid hs
      have hp := prod_bd hm hlt
      have ha := at_bd hm n
      have ha2 := at_bd hm (n + 1)
      have hsz := size_bd n
      by_cases hge : atN g (n + 1) ≤ x
      · have hd : decide (sizeN n * manyN g n ≤ x - atN g n) = true := by simp; omega
        clear hm hs
        go_wp2_with fail
        go_roundw
        case rel => exact ⟨n + 1, by omega, by go_num, by rw [HS.out]; simp only [Int.sub_sub], hge, hr.alloc _⟩
        case measure => simp [intOf]; omega
      · have hd : decide (sizeN n * manyN g n ≤ x - atN g n) = false := by simp; omega
        have HW := Lib.hid (where_row hm hlt hx hat (by omega))
        have hx3 : x - atN g n ≤ 7000 := by omega
        have hx4 : 0 ≤ x - atN g n := by omega
        have hsn : (sizeN n == 0) = false := by rw [beq_eq_false_iff_ne]; omega
        by_cases hn1 : n = 1
        · have hks : (kindN n == 2) = true := by rw [kind_sess hlt]; simp [hn1]
          have HN := Lib.hid hn1
          clear hm hs hn1
          go_wp2_with fail
          go_quiet (fail)
          go_wp2_with fail
          have hsz1 : sizeN n = 64 := by rw [HN.out]; rfl
          refine (in_session _ _ (Int.emod_nonneg _ (by omega)) (by rw [← hsz1]; exact Int.emod_lt_of_pos _ (by omega)) _).mono ?_
          rintro e _ ⟨rfl, rfl⟩
          have HZ := Lib.hid hsz1
          clear hsz1
          unfold four
          go_wp2_with fail
          refine bodyPost_ret (results_tmp4 rfl _ _ _) rfl ?_
          refine ⟨?_, (hr.alloc _).drewN _⟩
          rw [HW.out, if_pos HN.out, ← HZ.out]
          rfl
        · have hks : (kindN n == 2) = false := by rw [kind_sess hlt]; simp [hn1]
          have HN := Lib.hid hn1
          clear hm hs hn1
          go_wp2_with fail
          go_quiet (fail)
          go_wp2_with fail
          refine bodyPost_ret (results_tmp4 rfl _ _ _) rfl ?_
          refine ⟨?_, (hr.alloc _).drewN _⟩
          rw [HW.out, if_neg HN.out]
          rfl
    · obtain rfl : n = 7 := by omega
      have HW := Lib.hid (where_none (g := g) (x := x) (.inr (.inr hat)))
      go_wp2_with fail
      refine bodyPost_ret (results_tmp4 rfl _ _ _) rfl ?_
      exact ⟨by rw [HW.out]; rfl, hr⟩

set_option maxRecDepth 100000 in
set_option maxHeartbeats 2000000 in
theorem where_no {w0 w : World} (g : G) (x : Int) (hm : ¬ mayP g ∨ x < 0) (h : At w0 w) :
    Calls Tryz.prog 91 #[gV g, .int .i64 x] w fun e w' => e = .returned (four .u8 (whereV g x)) ∧ At w0 w' := by
  have HW := Lib.hid (where_none (g := g) (x := x) (by rcases hm with h | h; exact .inl h; exact .inr (.inl h)))
  by_cases hg : mayP g
  · have hx : x < 0 := by rcases hm with h | h; exact absurd hg h; exact h
    have hd : decide (x < 0) = true := by simpa using hx
    have Hmb := Lib.hid (mayB_true.2 hg)
    clear hm hg
    unfold gV
    go_enter Tryz.func91, Tryz.ntmps91
    go_wp2_with fail
    refine (may_any g (h.alloc _)).mono ?_
    rintro e w1 ⟨rfl, h1⟩
    rw [Hmb.out]
    go_wp2_with fail
    refine bodyPost_ret (results_tmp4 rfl _ _ _) rfl ?_
    exact ⟨by rw [HW.out]; rfl, h1⟩
  · have Hmb := Lib.hid (mayB_false.2 hg)
    clear hm hg
    unfold gV
    go_enter Tryz.func91, Tryz.ntmps91
    go_wp2_with fail
    refine (may_any g (h.alloc _)).mono ?_
    rintro e w1 ⟨rfl, h1⟩
    rw [Hmb.out]
    go_wp2_with fail
    refine bodyPost_ret (results_tmp4 rfl _ _ _) rfl ?_
    exact ⟨by rw [HW.out]; rfl, h1⟩

theorem where_any {w0 w : World} (g : G) (x : Int) (hx2 : x ≤ 9223372036854775807) (h : At w0 w) :
    Calls Tryz.prog 91 #[gV g, .int .i64 x] w fun e w' => e = .returned (four .u8 (whereV g x)) ∧ At w0 w' := by
  by_cases hg : mayP g
  · by_cases hx : 0 ≤ x
    · exact where_yes g x hg hx hx2 h
    · exact where_no g x (.inr (by omega)) h
  · exact where_no g x (.inl hg) h

end Go.Proofs.YtkopfnldgnkkoaaGreat
