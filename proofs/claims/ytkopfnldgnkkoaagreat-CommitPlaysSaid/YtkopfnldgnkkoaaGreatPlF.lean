import Derived.Test.YtkopfnldgnkkoaaGreatGm
import Derived.Test.YtkopfnldgnkkoaaGreatCmP
import Derived.Test.YtkopfnldgnkkoaaGreatPlE

/-
  PLAYS: the law's steps as arguments; few.
-/
namespace Go.Proofs.YtkopfnldgnkkoaaGreat
open Go.ChangeShapes Go.WideShapes Go.Deep Go.RowKit Go.Shelf
set_option linter.unusedVariables false

/-- A slice inside a struct that came in. -/
theorem open_recs' {H : Type} {enc : TypeId × Value → H} {P : Program} {w : World} {base : Nat} {spare : Nat → Bool} {held : Bool} {t e : TypeId} {fs : Array Field} {fuel : Nat} {v : Value} {x : DataW H × List MemPlace} (ht : P.underlying t = some (.slice e)) (he : P.underlying e = some (.struct fs))
    (hone : oneCellFields P fs = true) (hC : P.cellsOf e = fs.size) (hpos : 0 < fs.size) (hf : DataW.trod enc P w base spare held fuel t [v] = some x) :
    ∃ a len cap, v = .slice a len cap ∧ len ≤ cap ∧ len ≤ 9223372036854775807 ∧ (len = 0 ∨ ∃ b off, a = some ⟨b, off, none⟩ ∧ b < w.heap.size ∧ ∀ i, i < len → RecAt enc P w base spare held fs b off i) := by
  rcases open_slice_fields ht he hone hC hf with ⟨hcs, _⟩ | ⟨x, l, c, m, D, Pl, hcs, _, hl, hm, hmm, _, hi⟩
  · simp at hcs
    subst hcs
    exact ⟨none, 0, 0, rfl, Nat.le_refl _, by omega, .inl rfl⟩
  · simp at hcs
    subst hcs
    refine ⟨some x, l, c, rfl, hl, by unfold maxLen at hm; omega, ?_⟩
    rcases Nat.eq_zero_or_pos l with h0 | h0
    · exact .inl h0
    have hlm : l ≤ m := by rw [hmm]; split <;> omega
    have key : ∀ i, i < l → ∀ (j : Nat) (f : Field), fs[j]? = some f → ∃ (v : Value) (n : Nat) (y : DataW H × List MemPlace), w.cell? (x.add (i * fs.size + j)) = some v ∧ DataW.trod enc P w base spare held n f.type [v] = some y := fun i hil j f hj => by
      obtain ⟨ys, n, _, _, _, hff⟩ := hi i (by omega)
      obtain ⟨v, y, h1, _, h3⟩ := hff j f hj
      exact ⟨v, n, y, h1, h3⟩
    obtain ⟨v0, _, _, hc0, _⟩ := key 0 h0 0 _ (Array.getElem?_eq_getElem hpos)
    obtain ⟨hb, hs⟩ := cell_lt hc0
    obtain ⟨b, off, sp⟩ := x
    simp [Addr.add] at hs hb
    subst hs
    refine .inr ⟨b, off, rfl, hb, fun i hil j f hj => ?_⟩
    obtain ⟨v, n, y, h1, h2⟩ := key i hil j f hj
    refine ⟨v, n, y, ?_, h2⟩
    rw [Addr.add_lit] at h1
    rw [Nat.add_assoc]
    exact h1
/-- A slice of numbers inside a struct that came in. -/
theorem open_ints' {H : Type} {enc : TypeId × Value → H} {P : Program} {w : World} {base : Nat} {spare : Nat → Bool} {held : Bool} {t e : TypeId} {k : IntKind} {fuel : Nat} {v : Value} {x : DataW H × List MemPlace} (ht : P.underlying t = some (.slice e)) (he : P.underlying e = some (.int k)) (hc : P.cellsOf e = 1)
    (hf : DataW.trod enc P w base spare held fuel t [v] = some x) :
    ∃ a len cap ys, v = .slice a len cap ∧ len ≤ cap ∧ ys.length = len ∧ len ≤ maxLen ∧ Ints w.heap.size k w a ys ∧ ∀ n ∈ ys, (Lit.int k n).wf = true := by
  rcases open_ints ht he hc hf with ⟨hcs, _⟩ | ⟨x, l, c, zs, hcs, _, hl, hm, hz, _, hcell, hwz⟩
  · simp at hcs
    subst hcs
    exact ⟨none, 0, 0, [], rfl, Nat.le_refl _, rfl, Nat.zero_le _, .inl rfl, by simp⟩
  · simp at hcs
    subst hcs
    have hlz : l ≤ zs.length ∧ zs.length ≤ c := by rw [hz]; split <;> omega
    obtain ⟨ys, h1, h2, h3, h4⟩ := Ints.of_row (k := k) (w := w) (a := some x) (len := l) (cap := zs.length) (zs := zs) (.inr ⟨x, rfl, hlz.1, Nat.le_trans hlz.2 hm, rfl, hcell, hwz⟩)
    exact ⟨_, l, c, ys, rfl, hl, h1, h2, h3, h4⟩

/-- A step of the law's. -/
structure S9 where
  dw : Nat
  who : Nat
  la : Option Addr
  lc : Nat
  l : List Wr
  at_ : Int
  v : Int
  pa : Option Addr
  pc : Nat
  ps : List Int
  many : Nat
def s9C (x : S9) : List Value := [.int .u8 x.dw, .int .u8 x.who, .slice x.la x.l.length x.lc, .int .i64 x.at_, .int .u64 x.v, .slice x.pa x.ps.length x.pc, .int .u8 x.many]
structure S9Ok (W : World) (x : S9) : Prop where
  dw : x.dw ≤ 255
  who : x.who ≤ 255
  many : x.many ≤ 255
  ln : x.l.length ≤ 9223372036854775807
  l : Pairs .i64 .u64 W.heap.size W x.la x.l
  lu : ∀ y ∈ x.l, (Lit.int .i64 y.1).wf = true ∧ u64 y.2
  at_ : (Lit.int .i64 x.at_).wf = true
  v : u64 x.v
  pn : x.ps.length ≤ 9223372036854775807
  pc : x.ps.length ≤ x.pc
  ps : Ints W.heap.size .u8 W x.pa x.ps
  pu : ∀ y ∈ x.ps, 0 ≤ y ∧ y ≤ 255
theorem s9_of {H : Type} {enc : TypeId × Value → H} {P : Program} {w : World} {base : Nat} {spare : Nat → Bool} {held : Bool} {fs gs : Array Field} {f0 f1 f2 f3 f4 f5 f6 g0 g1 : Field} {e2 e5 : TypeId}
    (h0 : fs[0]? = some f0) (h1 : fs[1]? = some f1) (h2 : fs[2]? = some f2) (h3 : fs[3]? = some f3) (h4 : fs[4]? = some f4) (h5 : fs[5]? = some f5) (h6 : fs[6]? = some f6) (hn : fs.size = 7)
    (k0 : gs[0]? = some g0) (k1 : gs[1]? = some g1) (kn : gs.size = 2) (ko : oneCellFields P gs = true) (kC : P.cellsOf e2 = gs.size)
    (u0 : P.underlying f0.type = some (.int .u8)) (u1 : P.underlying f1.type = some (.int .u8)) (u2 : P.underlying f2.type = some (.slice e2)) (u3 : P.underlying f3.type = some (.int .i64)) (u4 : P.underlying f4.type = some (.int .u64)) (u5 : P.underlying f5.type = some (.slice e5)) (u6 : P.underlying f6.type = some (.int .u8))
    (v2 : P.underlying e2 = some (.struct gs)) (v5 : P.underlying e5 = some (.int .u8)) (c5 : P.cellsOf e5 = 1) (w0 : P.underlying g0.type = some (.int .i64)) (w1 : P.underlying g1.type = some (.int .u64))
    {a : Option Addr} {len : Nat}
    (h : len = 0 ∨ ∃ b off, a = some ⟨b, off, none⟩ ∧ b < w.heap.size ∧ ∀ i, i < len → RecAt enc P w base spare held fs b off i) :
    ∃ ss : List S9, ss.length = len ∧ Recs s9C 7 w.heap.size w a ss ∧ ∀ x ∈ ss, S9Ok w x :=
  recs_make s9C 7 w.heap.size w a len (S9Ok w) (by
    rcases h with h | ⟨b, off, e, hb, hi⟩
    · exact .inl h
    · refine .inr ⟨b, off, e, hb, fun i hil => ?_⟩
      obtain ⟨x0, n0, y0, c0, t0⟩ := hi i hil 0 f0 h0
      obtain ⟨x1, n1, y1, c1, t1⟩ := hi i hil 1 f1 h1
      obtain ⟨x2, n2, y2, c2, t2⟩ := hi i hil 2 f2 h2
      obtain ⟨x3, n3, y3, c3, t3⟩ := hi i hil 3 f3 h3
      obtain ⟨x4, n4, y4, c4, t4⟩ := hi i hil 4 f4 h4
      obtain ⟨x5, n5, y5, c5', t5⟩ := hi i hil 5 f5 h5
      obtain ⟨x6, n6, y6, c6, t6⟩ := hi i hil 6 f6 h6
      obtain ⟨z0, q0, _, r0⟩ := DataW.trod_int u0 t0
      obtain ⟨z1, q1, _, r1⟩ := DataW.trod_int u1 t1
      obtain ⟨z3, q3, _, r3⟩ := DataW.trod_int u3 t3
      obtain ⟨z4, q4, _, r4⟩ := DataW.trod_int u4 t4
      obtain ⟨z6, q6, _, r6⟩ := DataW.trod_int u6 t6
      obtain rfl : x0 = .int .u8 z0 := by simpa using q0
      obtain rfl : x1 = .int .u8 z1 := by simpa using q1
      obtain rfl : x3 = .int .i64 z3 := by simpa using q3
      obtain rfl : x4 = .int .u64 z4 := by simpa using q4
      obtain rfl : x6 = .int .u8 z6 := by simpa using q6
      obtain ⟨a2, l2, m2, rfl, _, hl2, hr2⟩ := open_recs' u2 v2 ko kC (by omega) t2
      obtain ⟨s2, e2', p2, o2⟩ := pairs_of (k1 := .i64) (k2 := .u64) k0 k1 kn w0 w1 hr2
      obtain ⟨a5, l5, m5, s5, rfl, hc5, e5', hl5, p5, o5⟩ := open_ints' u5 v5 c5 t5
      obtain ⟨z0, rfl⟩ := Int.eq_ofNat_of_zero_le (u8_of_wf9 r0).1
      obtain ⟨z1, rfl⟩ := Int.eq_ofNat_of_zero_le (u8_of_wf9 r1).1
      obtain ⟨z6, rfl⟩ := Int.eq_ofNat_of_zero_le (u8_of_wf9 r6).1
      subst e2' e5'
      rw [hn] at c0 c1 c2 c3 c4 c5' c6
      refine ⟨⟨z0, z1, a2, m2, s2, z3, z4, a5, m5, s5, z6⟩, ⟨by have := (u8_of_wf9 r0).2; show z0 ≤ 255; omega, by have := (u8_of_wf9 r1).2; show z1 ≤ 255; omega, by have := (u8_of_wf9 r6).2; show z6 ≤ 255; omega, hl2, p2, fun y hy => ⟨(o2 y hy).1, u64_of_wfI (o2 y hy).2⟩, r3, u64_of_wfI r4, by unfold maxLen at hl5; show s5.length ≤ _; omega, hc5, p5, fun y hy => u8_of_wf9 (o5 y hy)⟩, fun j v hv => ?_⟩
      match j, hv with
      | 0, hv => simp [s9C] at hv; subst hv; exact c0
      | 1, hv => simp [s9C] at hv; subst hv; exact c1
      | 2, hv => simp [s9C] at hv; subst hv; exact c2
      | 3, hv => simp [s9C] at hv; subst hv; exact c3
      | 4, hv => simp [s9C] at hv; subst hv; exact c4
      | 5, hv => simp [s9C] at hv; subst hv; exact c5'
      | 6, hv => simp [s9C] at hv; subst hv; exact c6)
structure S9At (W : World) (b o : Nat) (x : S9) : Prop where
  c0 : W.cell? ⟨b, o, none⟩ = some (.int .u8 x.dw)
  c1 : W.cell? ⟨b, o + 1, none⟩ = some (.int .u8 x.who)
  c2 : W.cell? ⟨b, o + 2, none⟩ = some (.slice x.la x.l.length x.lc)
  c3 : W.cell? ⟨b, o + 3, none⟩ = some (.int .i64 x.at_)
  c4 : W.cell? ⟨b, o + 4, none⟩ = some (.int .u64 x.v)
  c5 : W.cell? ⟨b, o + 5, none⟩ = some (.slice x.pa x.ps.length x.pc)
  c6 : W.cell? ⟨b, o + 6, none⟩ = some (.int .u8 x.many)
theorem s9_at {n₀ : Nat} {W : World} {a : Option Addr} {ss : List S9} (h : Recs s9C 7 n₀ W a ss) {k : Nat} (hk : k < ss.length) : ∃ b off, a = some ⟨b, off, none⟩ ∧ b < n₀ ∧ S9At W b (off + k * 7) ss[k] := by
  rcases h with rfl | ⟨b, off, rfl, hb, hc⟩
  · simp at hk
  · exact ⟨b, off, rfl, hb, ⟨hc k hk 0 _ rfl, hc k hk 1 _ rfl, hc k hk 2 _ rfl, hc k hk 3 _ rfl, hc k hk 4 _ rfl, hc k hk 5 _ rfl, hc k hk 6 _ rfl⟩⟩

/-- Are steps gone through? -/
def fewB (most : Nat) (l : List S9) : Bool := decide (l.length ≤ most) && l.all fun x => decide (x.l.length ≤ 120) && decide (x.ps.length ≤ 100)
set_option maxRecDepth 100000 in
set_option maxHeartbeats 2000000 in
theorem few_any (a : Option Addr) (len cap most : Nat) (hmost : most ≤ 1000) (l : List S9) (w : World) (hl : l.length = len) (hlm : len ≤ 9223372036854775807) (hI : Recs s9C 7 w.heap.size w a l) (hq : ∀ x ∈ l, S9Ok w x) :
    Calls Tryz.prog 5 #[.slice a len cap, .int .i64 most] w fun e w' => e = .returned (.bool (fewB most l)) ∧ w = w' := by
  have HL := Lib.hid hl
  have HI := Lib.hid hI
  have HQ := Lib.hid hq
  clear hI hq hl
  go_enter Tryz.func5, Tryz.ntmps5
  by_cases hm : (most : Int) < (len : Int)
  · go_wp2_with fail
    go_ret
    exact ⟨by unfold fewB; rw [HL.out, decide_eq_false (by omega)]; rfl, rfl⟩
  go_wp2_with fail
  have hm' : len ≤ most := by omega
  go_loopw [5] (fun i wq => ∃ k : Nat, k ≤ len ∧ i = .int .i64 k ∧ wq = w ∧ ((l.take k).all fun x => decide (x.l.length ≤ 120) && decide (x.ps.length ≤ 100)) = true) (fun i _ => len - (intOf i).toNat)
  case atStart => exact ⟨0, Nat.zero_le _, rfl, rfl, rfl⟩
  case round =>
    obtain ⟨k, hk, rfl, hww, hall⟩ := hrel
    subst hww
    have HA := Lib.hid hall
    clear hall
    by_cases hkn : k < len
    · have hkl : k < l.length := by rw [HL.out]; exact hkn
      obtain ⟨b, off, rfl, hb, hx⟩ := s9_at HI.out hkl
      have hln := (HQ.out _ (List.getElem_mem hkl)).ln
      have hpn := (HQ.out _ (List.getElem_mem hkl)).pn
      have HTK := Lib.hid (List.take_succ_eq_append_getElem hkl)
      have HMM := Lib.hid (List.getElem_mem hkl)
      generalize l[k] = x at *
      have c2 := hx.c2
      have c5 := hx.c5
      have hk0 : (0 : Int) ≤ (k : Int) := by omega
      have hkI : (k : Int) < (len : Int) := by omega
      clear hx
      obtain ⟨n, hn⟩ : ∃ n, x.l.length = n := ⟨_, rfl⟩
      obtain ⟨p, hp⟩ : ∃ p, x.ps.length = p := ⟨_, rfl⟩
      have HN := Lib.hid hn
      have HP := Lib.hid hp
      rw [hn] at c2 hln
      rw [hp] at c5 hpn
      clear hn hp
      have no : ¬ (n ≤ 120 ∧ p ≤ 100) → fewB most l = false := fun h => by
        unfold fewB
        rw [Bool.and_eq_false_iff]
        refine .inr ?_
        rw [Bool.eq_false_iff]
        intro hh
        have := List.all_eq_true.1 hh x HMM.out
        rw [HN.out, HP.out] at this
        simp at this
        exact h this
      have HNO := Lib.hid no
      clear no
      by_cases hn1 : (120 : Int) < (n : Int)
      · go_wp2_with fail
        go_ret
        exact ⟨by rw [HNO.out (by omega)]; rfl, rfl⟩
      · by_cases hp1 : (100 : Int) < (p : Int)
        · go_wp2_with fail
          go_ret
          exact ⟨by rw [HNO.out (by omega)]; rfl, rfl⟩
        · go_wp2_with fail
          go_roundw
          case rel => exact ⟨k + 1, by omega, by go_num, trivial, by
            rw [HTK.out, List.all_append, HA.out]
            simp [HN.out, HP.out]
            omega⟩
          case measure => simp [intOf]; omega
    · obtain rfl : k = len := by omega
      go_wp2_with fail
      go_ret
      refine ⟨?_, rfl⟩
      have hA := HA.out
      rw [List.take_of_length_le (by rw [HL.out]; exact Nat.le_refl _)] at hA
      unfold fewB
      rw [hA, HL.out, decide_eq_true hm']
      rfl
end Go.Proofs.YtkopfnldgnkkoaaGreat

/-
  PLAYS: the calls of the law's loop, as moves of its state.
-/
namespace Go.Proofs.YtkopfnldgnkkoaaGreat
open Go.RowKit Go.Shelf
set_option linter.unusedVariables false

/-- The state of the law's loop. -/
structure PlW (w W : World) (g : G) (N X d db rd rb vb bx by_ : Nat) (qs : List Nat) (va : Nat) (rs : List Nat) (av bv : Nat → Option Addr) (L M : Nat → List St) (f h : Nat → Wd) : Prop where
  p : PlAt W w.heap.size g N d db rd rb rs qs av bv L M f h
  rl : rs.length = X
  ql : qs.length = X
  pa : PtsAt W 48 va rs
  pb : PtsAt W 39 vb qs
  g1 : Blk W bx #[.int .i64 g.w, .int .i64 g.i, .int .i64 g.b] 26
  g2 : Blk W by_ #[.int .i64 g.w, .int .i64 g.i, .int .i64 g.b] 28
  n : Nw w W
/-- What holds of the geometry. -/
structure PlG (g : G) (N X : Nat) : Prop where
  m : mayP g
  w : g.w = (X : Int)
  nN : wordsV g = (N : Int)
  le : N ≤ 65536
  a : ∀ k, k < X → 264 + 208 * k + 208 ≤ N
theorem PlG.ov {g : G} {N X : Nat} (h : PlG g N X) : ovOk g N := ⟨h.m, by rw [h.nN]; exact Int.le_refl _⟩
section
variable {w W W' : World} {g : G} {N X d db rd rb vb bx by_ : Nat} {qs : List Nat} {va : Nat} {rs : List Nat} {av bv : Nat → Option Addr} {L M : Nat → List St} {f h : Nat → Wd}
theorem PlW.to (s : PlW w W g N X d db rd rb vb bx by_ qs va rs av bv L M f h) {av' bv' : Nat → Option Addr} {L' M' : Nat → List St} {f' h' : Nat → Wd} (p : PlAt W' w.heap.size g N d db rd rb rs qs av' bv' L' M' f' h') (k : Kept w.heap.size W W') :
    PlW w W' g N X d db rd rb vb bx by_ qs va rs av' bv' L' M' f' h' :=
  ⟨p, s.rl, s.ql, k.pts (by decide) s.pa, k.pts (by decide) s.pb, k.blk _ _ _ (by decide) s.g1, k.blk _ _ _ (by decide) s.g2, k.nw w rfl s.n⟩
theorem PlW.nw (s : PlW w W g N X d db rd rb vb bx by_ qs va rs av bv L M f h) (u : Nw W W') : PlW w W' g N X d db rd rb vb bx by_ qs va rs av bv L M f h := s.to (s.p.nw u) (.of_nw u)
theorem PlW.same (s : PlW w W g N X d db rd rb vb bx by_ qs va rs av bv L M f h) {f' h' : Nat → Wd} (e1 : ∀ k, k < N → f k = f' k) (e2 : ∀ k, k < N → h k = h' k) : PlW w W g N X d db rd rb vb bx by_ qs va rs av bv L M f' h' := s.to (s.p.same e1 e2) (.refl _ _)
theorem PlW.ge (s : PlW w W g N X d db rd rb vb bx by_ qs va rs av bv L M f h) : w.heap.size ≤ W.heap.size := s.n.b.size
/-- Where the first run's pointer lies. -/
theorem PlW.ptA (s : PlW w W g N X d db rd rb vb bx by_ qs va rs av bv L M f h) {k : Nat} (hk : k < X) : W.cell? ⟨va, k, none⟩ = some (ptC (rs[k]'(by rw [s.rl]; exact hk))) := s.pa.at_ (by rw [s.rl]; exact hk)
theorem PlW.ptB (s : PlW w W g N X d db rd rb vb bx by_ qs va rs av bv L M f h) {k : Nat} (hk : k < X) : W.cell? ⟨vb, k, none⟩ = some (ptC (qs[k]'(by rw [s.ql]; exact hk))) := s.pb.at_ (by rw [s.ql]; exact hk)

theorem pts_cell {W : World} {t : TypeId} {b k r : Nat} {rs : List Nat} (h : PtsAt W t b rs) (hr : rs[k]? = some r) : W.cell? ⟨b, k, none⟩ = some (.pointer (some ⟨r, 0, none⟩)) := by
  obtain ⟨hk, e⟩ := List.getElem?_eq_some_iff.1 hr
  have := h.at_ hk
  rw [e] at this
  exact this
theorem PlW.cA (s : PlW w W g N X d db rd rb vb bx by_ qs va rs av bv L M f h) {k : Nat} (hk : k < X) {r : Nat} (hr : rs[k]? = some r) : W.cell? ⟨va, k, none⟩ = some (.pointer (some ⟨r, 0, none⟩)) := pts_cell s.pa hr
theorem PlW.cB (s : PlW w W g N X d db rd rb vb bx by_ qs va rs av bv L M f h) {k : Nat} (hk : k < X) {r : Nat} (hr : qs[k]? = some r) : W.cell? ⟨vb, k, none⟩ = some (.pointer (some ⟨r, 0, none⟩)) := pts_cell s.pb hr
theorem PlW.fB (s : PlW w W g N X d db rd rb vb bx by_ qs va rs av bv L M f h) {k : Nat} (hk : k < X) {r : Nat} (hr : qs[k]? = some r) : W.frozen? ⟨r, 5, none⟩ = false := by
  obtain ⟨hk, e⟩ := List.getElem?_eq_some_iff.1 hr
  exact e ▸ (s.p.B.a k hk).tag.frozen 5
theorem PlW.sB (s : PlW w W g N X d db rd rb vb bx by_ qs va rs av bv L M f h) {k : Nat} (hk : k < X) {r : Nat} (hr : qs[k]? = some r) : ∃ v, W.cell? ⟨r, 5, none⟩ = some v := by
  obtain ⟨hk, e⟩ := List.getElem?_eq_some_iff.1 hr
  obtain ⟨c, hb, _⟩ := (s.p.B.a k hk).k
  rw [← e]
  exact ⟨_, hb.cell (j := 5) rfl⟩
theorem PlW.phaseA (s : PlW w W g N X d db rd rb vb bx by_ qs va rs av bv L M f h) {k : Nat} (hk : k < X) {r : Nat} (hr : rs[k]? = some r) (hL : (L k).length ≤ 40000) : Calls Tryz.prog 24 #[.pointer (some ⟨r, 0, none⟩)] W fun e w' => e = .returned (.int .u8 (phaseOf (L k))) ∧ W = w' := by
  obtain ⟨hk, e⟩ := List.getElem?_eq_some_iff.1 hr
  exact phase_any r d g _ (L k) (av k) (by omega) W (e ▸ s.p.A.a k hk)
theorem PlW.phaseB (s : PlW w W g N X d db rd rb vb bx by_ qs va rs av bv L M f h) {k : Nat} (hk : k < X) {r : Nat} (hr : qs[k]? = some r) (hL : (M k).length ≤ 40000) : Calls Tryz.prog 25 #[.pointer (some ⟨r, 0, none⟩)] W fun e w' => e = .returned (.int .i64 (phaseOf (M k))) ∧ W = w' := by
  obtain ⟨hk, e⟩ := List.getElem?_eq_some_iff.1 hr
  exact rphase_any r rd g k (M k) (bv k) (by omega) W (e ▸ s.p.B.a k hk)
theorem PlW.leftA (s : PlW w W g N X d db rd rb vb bx by_ qs va rs av bv L M f h) {k : Nat} (hk : k < X) {r : Nat} (hr : rs[k]? = some r) (hL : (L k).length ≤ 40000) : Calls Tryz.prog 26 #[.pointer (some ⟨r, 0, none⟩)] W fun e w' => e = .returned (.int .i64 ((L k).length : Nat)) ∧ W = w' := by
  obtain ⟨hk, e⟩ := List.getElem?_eq_some_iff.1 hr
  exact left_any r d g _ (L k) (av k) (by omega) W (e ▸ s.p.A.a k hk)
theorem PlW.leftB (s : PlW w W g N X d db rd rb vb bx by_ qs va rs av bv L M f h) {k : Nat} (hk : k < X) {r : Nat} (hr : qs[k]? = some r) : ∃ a c, W.cell? ⟨r, 5, none⟩ = some (.slice a (M k).length c) := by
  obtain ⟨hk, e⟩ := List.getElem?_eq_some_iff.1 hr
  obtain ⟨c, hb, _⟩ := (s.p.B.a k hk).k
  rw [← e]
  exact ⟨_, _, hb.cell (j := 5) rfl⟩
/-- The first runs have no steps. -/
def clrTo (q : Nat) (L : Nat → List St) : Nat → List St := fun j => if j < q then [] else L j
theorem clrTo_zero (L : Nat → List St) : clrTo 0 L = L := by funext j; exact if_neg (Nat.not_lt_zero _)
theorem clrTo_succ (q : Nat) (L : Nat → List St) : updF (clrTo q L) q [] = clrTo (q + 1) L := by
  funext j
  unfold updF clrTo
  by_cases e : j = q
  · subst e; rw [if_pos rfl, if_pos (by omega)]
  · rw [if_neg e]
    by_cases h : j < q
    · rw [if_pos h, if_pos (by omega)]
    · rw [if_neg h, if_neg (by omega)]
theorem PlW.clr (s : PlW w W g N X d db rd rb vb bx by_ qs va rs av bv L (clrTo X M) f h) : PlW w W g N X d db rd rb vb bx by_ qs va rs av bv L (fun _ => []) f h :=
  ⟨⟨s.p.D, s.p.R, s.p.A, ⟨fun j hj => by
      have := s.p.B.a j hj
      unfold clrTo at this
      rw [if_pos (by rw [← s.ql]; exact hj)] at this
      exact this, s.p.B.n, s.p.B.q, s.p.B.f⟩, s.p.dl, s.p.rl⟩, s.rl, s.ql, s.pa, s.pb, s.g1, s.g2, s.n⟩
/-- Writes behind a slice of one's own. -/
theorem wp_append_pairs {P : Program} {w : World} {o : Oper} {a : Act} {K : Act → World → Prop} {Q : Exit → Act → World → Prop} (s x : Operand) (t : TypeId)
    (ho : o.op = .call { callee := .builtin .append, args := #[s, x], argTypes := #[t, t] })
    (base : Nat) (e : TypeId) (i : TypeInfo) (z : Value) (bytes : Nat) (ht : P.underlying t = some (.slice e)) (hi : P.info? e = some i) (hz : i.zero = some z)
    (hsize : i.size = 2) (hby : i.bytes = bytes) (hzs : z.cells.size = 2)
    (v : Value) (n : Nat) (xs : List Value) (hs : a.eval s = v) (hown : w.ownsRow base e 2 v n xs)
    (ax : Option Addr) (len c : Nat) (l : List Wr) (n₀ : Nat) (hx : a.eval x = .slice ax len c) (hl : l.length = len) (hI : Pairs .i64 .u64 n₀ w ax l)
    (h63 : n + len ≤ maxLen) (hbytes : (n + len) * bytes ≤ 140737488355328) (hbase : base ≤ w.heap.size)
    (h : ∀ v' w', w'.ownsRow base e 2 v' (n + len) (xs ++ prC l) → w.grownBy w' v.ownBlock → K (a.put o.dst v') w') : o.wp P a w K Q := by
  subst hl
  rcases hI with rfl | ⟨b, off, rfl, hb, hc⟩
  · have hrun := run_append_empty (P := P) w base t o.type e i 2 c ht hi v n xs hown ax
    have h' := h v w (by simpa [prC] using hown) ⟨rfl, rfl, rfl, Nat.le_refl _, fun _ _ _ => rfl⟩
    unfold Oper.wp
    simp only [List.length_nil] at hx
    simp [execOp, ho, resolve, invoke, builtin, hs, hx, hrun, Result.andThen]
    exact h'
  · refine wp_append_own w s x t ho base e i z 2 bytes ht hi hz hsize hby hzs (by decide) v n xs hs hown ⟨b, off, none⟩ l.length c (prC l) hx (prC_len l) ?_ (prC_one l) h63 hbytes hbase (fun v' w' h1 h2 _ => h v' w' h1 h2)
    intro j u hu
    rw [Addr.add_lit]
    have hj : j < l.length * 2 := by rw [← prC_len]; exact (List.getElem?_eq_some_iff.1 hu).1
    obtain ⟨f1, f2⟩ := hc (j / 2) (by omega)
    obtain ⟨g1, g2⟩ := prC_at l (j / 2) (by omega)
    rcases (show j = j / 2 * 2 ∨ j = j / 2 * 2 + 1 by omega) with e | e
    · rw [← e, hu] at g1
      rw [← e] at f1
      rw [f1, ← g1]
    · rw [← e, hu] at g2
      rw [Nat.add_assoc, ← e] at f2
      rw [f2, ← g2]
theorem own_prs {W : World} {base n : Nat} {a : Option Addr} {c : Nat} {l : List Wr} (hl : l.length = n) (h : W.ownsRow base 91 2 (.slice a n c) n (prC l)) : Pairs .i64 .u64 W.heap.size W a l := by
  subst hl
  obtain ⟨a', c', he, _, hp⟩ := Pairs.of_owns h
  simp only [Value.slice.injEq, true_and] at he
  obtain ⟨rfl, -⟩ := he
  exact hp
theorem own_wtag {W : World} {base n m : Nat} {a : Option Addr} {c : Nat} {xs : List Value} (h : W.ownsRow base 91 2 (.slice a m c) n xs) : ∀ p, a = some p → ∃ t, Tag W p.block t ∧ t ≠ 104 ∧ t ≠ 145 := fun p hp => by
  rcases h.2 with ⟨h1, _⟩ | ⟨g, cap, cur, hv, hg, hh, _⟩
  · cases h1; cases hp
  · cases hv; cases hp
    exact ⟨_, ⟨cur, hh⟩, by decide, by decide⟩

/-! ### Begin -/
theorem PlW.beginA (hG : PlG g N X) (s : PlW w W g N X d db rd rb vb bx by_ qs va rs av bv L M f h) {k : Nat} (hk : k < X) {r : Nat} (hr : rs[k]? = some r) (la : Option Addr) (n lc n₀ : Nat) (l : List Wr) (hl : l.length = n) (hn : n ≤ 1000000) (hsh : Shp la n lc) (hu : ∀ x ∈ l, (Lit.int .i64 x.1).wf = true ∧ u64 x.2) (hn₀ : n₀ ≤ W.heap.size) (hI : Pairs .i64 .u64 n₀ W la l)
    (hla : ∀ p, la = some p → ∃ t, Tag W p.block t ∧ t ≠ 104 ∧ t ≠ 145) :
    Calls Tryz.prog 12 #[.pointer (some ⟨r, 0, none⟩), .slice la n lc] W fun e W' => e = .returned (.int .i64 (begE g (L k) l)) ∧ Kept w.heap.size W W' ∧ ∃ a', PlW w W' g N X d db rd rb vb bx by_ qs va rs (updF av k a') bv (updF L k (begS g (264 + 208 * (k : Int)) (L k) l)) M f h := by
  have hkr : k < rs.length := by rw [s.rl]; exact hk
  obtain rfl : rs[k] = r := by rw [List.getElem?_eq_getElem hkr] at hr; exact Option.some.inj hr
  have ha := hG.a k hk
  have hle := hG.le
  refine (begin_all _ d g (264 + 208 * (k : Int)) (L k) (av k) (by omega) (by omega) la n lc n₀ l hl hn hsh hu W hn₀ hI (s.p.A.a k hkr) (fun p hp => by
    obtain ⟨t, ht, h1, h2⟩ := hla p hp
    exact (s.p.A.a k hkr).not_own ht h1 h2)).mono fun e W' ⟨he, a', m⟩ => ?_
  obtain ⟨q, kp⟩ := s.p.moveA hkr m s.ge
  exact ⟨he, kp, a', s.to q kp⟩
theorem PlW.beginB (hG : PlG g N X) (s : PlW w W g N X d db rd rb vb bx by_ qs va rs av bv L M f h) {k : Nat} (hk : k < X) {r : Nat} (hr : qs[k]? = some r) (la : Option Addr) (n lc n₀ : Nat) (l : List Wr) (hl : l.length = n) (hn : n ≤ 1000000) (hu : ∀ x ∈ l, (Lit.int .i64 x.1).wf = true ∧ u64 x.2) (hn₀ : n₀ ≤ W.heap.size) (hI : Pairs .i64 .u64 n₀ W la l)
    (hla : l ≠ [] → ∀ p, la = some p → p.block < w.heap.size) :
    Calls Tryz.prog 13 #[.pointer (some ⟨r, 0, none⟩), .slice la n lc] W fun e W' => e = .returned (.int .i64 (begE g (M k) l)) ∧ Kept w.heap.size W W' ∧ ∃ a', PlW w W' g N X d db rd rb vb bx by_ qs va rs av (updF bv k a') L (updF M k (begS g (264 + 208 * (k : Int)) (M k) l)) f h := by
  have hkr : k < qs.length := by rw [s.ql]; exact hk
  obtain rfl : qs[k] = r := by rw [List.getElem?_eq_getElem hkr] at hr; exact Option.some.inj hr
  refine (rbegin_all _ rd g k (M k) (bv k) hG.m (by rw [hG.w]; omega) la n lc n₀ l hl hn hu W hn₀ hI (s.p.B.a k hkr) (fun h0 p hp hx => by
    have h1 := hla h0 p hp
    have h2 := s.p.B.f k hkr _ hx
    omega)).mono fun e W' ⟨he, a', m⟩ => ?_
  obtain ⟨q, kp⟩ := s.p.moveB hkr m s.ge
  exact ⟨he, kp, a', s.to q kp⟩

/-! ### Resume -/
theorem PlW.resumeA (hG : PlG g N X) (s : PlW w W g N X d db rd rb vb bx by_ qs va rs av bv L M f h) (hu : UWs N f) {k : Nat} (hk : k < X) {r : Nat} (hr : rs[k]? = some r) :
    Calls Tryz.prog 14 #[.pointer (some ⟨r, 0, none⟩)] W fun e W' => e = .returned (.tuple #[.bool (resB (L k) (seenA f (264 + 208 * k) 208)), .int .i64 (resE (L k))]) ∧ Kept w.heap.size W W' ∧ ∃ a', PlW w W' g N X d db rd rb vb bx by_ qs va rs (updF av k a') bv (updF L k (resS g (264 + 208 * (k : Int)) (L k) (seenA f (264 + 208 * k) 208))) M f h := by
  have hkr : k < rs.length := by rw [s.rl]; exact hk
  obtain rfl : rs[k] = r := by rw [List.getElem?_eq_getElem hkr] at hr; exact Option.some.inj hr
  have ha := hG.a k hk
  have hA : ((264 + 208 * k : Nat) : Int) = 264 + 208 * (k : Int) := by omega
  have hc := resume_all rs[k] d db N (264 + 208 * k) g (L k) (av k) f ha (by rw [hG.nN]; have := hG.le; omega) (fun j hj => (hu j hj).2.1) W s.p.D (by rw [hA]; exact s.p.A.a k hkr)
  rw [hA] at hc
  refine hc.mono fun e W' ⟨he, a', m⟩ => ?_
  obtain ⟨q, kp⟩ := s.p.moveA hkr m s.ge
  exact ⟨he, kp, a', s.to q kp⟩
theorem PlW.resumeB (hG : PlG g N X) (s : PlW w W g N X d db rd rb vb bx by_ qs va rs av bv L M f h) (hu : UWs N h) {k : Nat} (hk : k < X) {r : Nat} (hr : qs[k]? = some r) :
    Calls Tryz.prog 15 #[.pointer (some ⟨r, 0, none⟩)] W fun e W' => e = .returned (.tuple #[.bool (resB (M k) (seenA h (264 + 208 * k) 208)), .int .i64 (resE (M k))]) ∧ Kept w.heap.size W W' ∧ ∃ a', PlW w W' g N X d db rd rb vb bx by_ qs va rs av (updF bv k a') L (updF M k (resS g (264 + 208 * (k : Int)) (M k) (seenA h (264 + 208 * k) 208))) f h := by
  have hkr : k < qs.length := by rw [s.ql]; exact hk
  obtain rfl : qs[k] = r := by rw [List.getElem?_eq_getElem hkr] at hr; exact Option.some.inj hr
  refine (rresume_all qs[k] rd rb N k g (M k) (bv k) h hG.ov (by rw [hG.w]; omega) (fun j hj => (hu j hj).2.1) W s.p.R (s.p.B.a k hkr)).mono fun e W' ⟨he, a', m⟩ => ?_
  obtain ⟨q, kp⟩ := s.p.moveB hkr m s.ge
  exact ⟨he, kp, a', s.to q kp⟩

/-! ### Step -/
theorem PlW.stepA (s : PlW w W g N X d db rd rb vb bx by_ qs va rs av bv L M f h) {k : Nat} (hk : k < X) (hL : okL9 N (L k)) {r : Nat} (hr : rs[k]? = some r) :
    Calls Tryz.prog 22 #[.pointer (some ⟨r, 0, none⟩)] W fun e W' => e = .returned (.tuple #[.int .u8 (phaseOf (L k)), .int .i64 (stpE (L k))]) ∧ Kept w.heap.size W W' ∧ ∃ a', PlW w W' g N X d db rd rb vb bx by_ qs va rs (updF av k a') bv (updF L k (L k).tail) M (stpF (L k) f) h := by
  have hkr : k < rs.length := by rw [s.rl]; exact hk
  obtain rfl : rs[k] = r := by rw [List.getElem?_eq_getElem hkr] at hr; exact Option.some.inj hr
  refine (step_all rs[k] d db N g (264 + 208 * (k : Int)) (L k) (av k) (by have := hL.1; omega) f hL.ls W s.p.D (s.p.A.a k hkr)).mono fun e W' ⟨he, a', h1, h2, h3, h4⟩ => ?_
  obtain ⟨q, kp⟩ := s.p.stepA hkr h1 h2 h3 h4 s.ge
  exact ⟨he, kp, a', s.to q kp⟩
theorem PlW.stepB (s : PlW w W g N X d db rd rb vb bx by_ qs va rs av bv L M f h) {k : Nat} (hk : k < X) (hL : okL9 N (M k)) {r : Nat} (hr : qs[k]? = some r) :
    Calls Tryz.prog 23 #[.pointer (some ⟨r, 0, none⟩)] W fun e W' => e = .returned (.tuple #[.int .i64 (phaseOf (M k)), .int .i64 (stpE (M k))]) ∧ Kept w.heap.size W W' ∧ ∃ a', PlW w W' g N X d db rd rb vb bx by_ qs va rs av (updF bv k a') L (updF M k (M k).tail) f (stpR (M k) h) := by
  have hkr : k < qs.length := by rw [s.ql]; exact hk
  obtain rfl : qs[k] = r := by rw [List.getElem?_eq_getElem hkr] at hr; exact Option.some.inj hr
  refine (rstep_all qs[k] rd rb N g k (M k) (bv k) (by have := hL.1; omega) h hL.ls W s.p.R (s.p.B.a k hkr)).mono fun e W' ⟨he, a', h1, h2, h3, h4⟩ => ?_
  obtain ⟨q, kp⟩ := s.p.stepB hkr h1 h2 h3 h4 s.ge
  exact ⟨he, kp, a', s.to q kp⟩

/-! ### The devices -/
def stoE (N : Nat) (x : Int) : Int := if 0 ≤ x ∧ x < N then 0 else 8
def stoF (N : Nat) (x v : Int) (f : Nat → Wd) : Nat → Wd := if 0 ≤ x ∧ x < N then upd f x.toNat (storeW (f x.toNat) v) else f
def eviE (N : Nat) (x : Int) : Int := if 0 ≤ x ∧ x * 8 < N then 0 else 8
def eviF (N : Nat) (x : Int) (f : Nat → Wd) : Nat → Wd := if 0 ≤ x ∧ x * 8 < N then evictU x.toNat f else f
theorem PlW.storeA (s : PlW w W g N X d db rd rb vb bx by_ qs va rs av bv L M f h) (x v : Int) :
    Calls Tryz.prog 16 #[.pointer (some ⟨d, 0, none⟩), .int .i64 x, .int .u64 v] W fun e W' => e = .returned (.int .i64 (stoE N x)) ∧ Kept w.heap.size W W' ∧ PlW w W' g N X d db rd rb vb bx by_ qs va rs av bv L M (stoF N x v f) h := by
  unfold stoE stoF
  by_cases hx : 0 ≤ x ∧ x < (N : Int)
  · obtain ⟨q, rfl⟩ := Int.eq_ofNat_of_zero_le hx.1
    rw [if_pos hx, if_pos hx, Int.toNat_natCast]
    refine (store_any d db N f q (by omega) v W s.p.D).mono fun e W' ⟨he, h1, h2⟩ => ?_
    obtain ⟨p', kp⟩ := s.p.devA h1 h2
    exact ⟨he, kp, s.to p' kp⟩
  · rw [if_neg hx, if_neg hx]
    refine (store_out d db N f x (by omega) v W s.p.D).mono fun e W' ⟨he, h1⟩ => ?_
    subst h1
    exact ⟨he, .refl _ _, s⟩
theorem PlW.storeB (s : PlW w W g N X d db rd rb vb bx by_ qs va rs av bv L M f h) (x v : Int) :
    Calls Tryz.prog 17 #[.pointer (some ⟨rd, 0, none⟩), .int .i64 x, .int .u64 v] W fun e W' => e = .returned (.int .i64 (stoE N x)) ∧ Kept w.heap.size W W' ∧ PlW w W' g N X d db rd rb vb bx by_ qs va rs av bv L M f (stoF N x v h) := by
  unfold stoE stoF
  by_cases hx : 0 ≤ x ∧ x < (N : Int)
  · obtain ⟨q, rfl⟩ := Int.eq_ofNat_of_zero_le hx.1
    rw [if_pos hx, if_pos hx, Int.toNat_natCast]
    refine (rstore_any rd rb N h q (by omega) v W s.p.R).mono fun e W' ⟨he, h1, h2⟩ => ?_
    obtain ⟨p', kp⟩ := s.p.devB h1 h2
    exact ⟨he, kp, s.to p' kp⟩
  · rw [if_neg hx, if_neg hx]
    refine (rstore_out rd rb N h x (by omega) v W s.p.R).mono fun e W' ⟨he, h1⟩ => ?_
    subst h1
    exact ⟨he, .refl _ _, s⟩
theorem PlW.evictA (s : PlW w W g N X d db rd rb vb bx by_ qs va rs av bv L M f h) (x : Int) :
    Calls Tryz.prog 18 #[.pointer (some ⟨d, 0, none⟩), .int .i64 x] W fun e W' => e = .returned (.int .i64 (eviE N x)) ∧ Kept w.heap.size W W' ∧ PlW w W' g N X d db rd rb vb bx by_ qs va rs av bv L M (eviF N x f) h := by
  unfold eviE eviF
  by_cases hx : 0 ≤ x ∧ x * 8 < (N : Int)
  · obtain ⟨q, rfl⟩ := Int.eq_ofNat_of_zero_le hx.1
    rw [if_pos hx, if_pos hx, Int.toNat_natCast]
    refine (evict_any d db N f q (by omega) W s.p.D).mono fun e W' ⟨he, h1, h2⟩ => ?_
    obtain ⟨p', kp⟩ := s.p.devA h1 h2
    exact ⟨he, kp, s.to p' kp⟩
  · rw [if_neg hx, if_neg hx]
    refine (evict_out d db N f x (by omega) W s.p.D).mono fun e W' ⟨he, h1⟩ => ?_
    exact ⟨he, .of_nw h1, s.nw h1⟩
theorem PlW.evictB (s : PlW w W g N X d db rd rb vb bx by_ qs va rs av bv L M f h) (x : Int) :
    Calls Tryz.prog 19 #[.pointer (some ⟨rd, 0, none⟩), .int .i64 x] W fun e W' => e = .returned (.int .i64 (eviE N x)) ∧ Kept w.heap.size W W' ∧ PlW w W' g N X d db rd rb vb bx by_ qs va rs av bv L M f (eviF N x h) := by
  unfold eviE eviF
  by_cases hx : 0 ≤ x ∧ x * 8 < (N : Int)
  · obtain ⟨q, rfl⟩ := Int.eq_ofNat_of_zero_le hx.1
    rw [if_pos hx, if_pos hx, Int.toNat_natCast]
    refine (revict_any rd rb N h q (by omega) W s.p.R).mono fun e W' ⟨he, h1, h2⟩ => ?_
    obtain ⟨p', kp⟩ := s.p.devB h1 h2
    exact ⟨he, kp, s.to p' kp⟩
  · rw [if_neg hx, if_neg hx]
    refine (revict_out rd rb N h x (by omega) W s.p.R).mono fun e W' ⟨he, h1⟩ => ?_
    subst h1
    exact ⟨he, .refl _ _, s⟩

theorem PlOk.store {N X : Nat} {L : Nat → List St} {f : Nat → Wd} (o : PlOk N X L f) {x v : Int} (hx : (Lit.int .i64 x).wf = true) (hv : u64 v) : PlOk N X L (stoF N x v f) := by
  unfold stoF
  split
  · rename_i h
    exact ⟨o.s.upd _ (snd_store v), o.u.store _ (by omega) hv, o.l⟩
  · exact o
theorem PlOk.evict {N X : Nat} {L : Nat → List St} {f : Nat → Wd} (o : PlOk N X L f) (x : Int) : PlOk N X L (eviF N x f) := by
  unfold eviF
  split
  · exact ⟨o.s.evict _, o.u.evict _, o.l⟩
  · exact o
theorem PlOk.crash {N X : Nat} {L : Nat → List St} {f : Nat → Wd} (o : PlOk N X L f) (zs : List Int) : PlOk N X (fun _ => []) (crR zs f) := ⟨Snd.crash zs, o.u.crash zs, fun k _ => okL9.nil N⟩
theorem PlOk.run {N X : Nat} {L : Nat → List St} {f : Nat → Wd} (o : PlOk N X L f) {k : Nat} {M : List St} (h : okL9 N M) : PlOk N X (updF L k M) f := ⟨o.s, o.u, fun j hj => by
  by_cases e : j = k
  · subst e; rw [updF_same]; exact h
  · rw [updF_ne _ _ e]; exact o.l j hj⟩
theorem PlOk.step {N X : Nat} {L : Nat → List St} {f : Nat → Wd} (o : PlOk N X L f) {k : Nat} (hk : k < X) : PlOk N X (updF L k (L k).tail) (stpF (L k) f) :=
  (⟨o.s.step (L k), o.u.step (o.l k hk), o.l⟩ : PlOk N X L (stpF (L k) f)).run (o.l k hk).tail

/-! ### A crash -/
theorem PlW.crashA (s : PlW w W g N X d db rd rb vb bx by_ qs va rs av bv L M f h) (hs : Snd N f) (a : Option Addr) (len cap : Nat) (zs : List Int) (hl : zs.length = len) (hlc : len ≤ cap) (hreach : len ≤ 1000000) (hz : ∀ x ∈ zs, 0 ≤ x ∧ x ≤ 255) (hI : Ints w.heap.size .u8 w a zs) :
    Calls Tryz.prog 20 #[.pointer (some ⟨d, 0, none⟩), .slice a len cap] W fun e W' => (∃ u, e = .returned u) ∧ Kept w.heap.size W W' ∧ PlW w W' g N X d db rd rb vb bx by_ qs va rs av bv L M (crR zs f) h := by
  refine (crash_gen d db N f w.heap.size a len cap zs hl hlc (by omega) hz W s.ge (fun h0 p hp e => ?_) (hI.below s.n.b) s.p.D).mono fun e W' ⟨he, h1, h2⟩ => ?_
  · rcases hI with h3 | ⟨b, off, h3, h4, _⟩
    · exact h0 h3
    · rw [hp] at h3
      simp only [Option.some.injEq] at h3
      subst h3
      have := s.p.dl
      simp only at e
      omega
  · obtain ⟨p', kp⟩ := s.p.devA (h1.congr (fun k hk => crash_same hs zs k hk)) h2
    exact ⟨⟨_, he⟩, kp, s.to p' kp⟩
theorem PlW.crashB (s : PlW w W g N X d db rd rb vb bx by_ qs va rs av bv L M f h) (a : Option Addr) (len cap : Nat) (zs : List Int) (hl : zs.length = len) (hz : ∀ x ∈ zs, 0 ≤ x ∧ x ≤ 255) (hI : Ints w.heap.size .u8 w a zs) :
    Calls Tryz.prog 21 #[.pointer (some ⟨rd, 0, none⟩), .slice a len cap] W fun e W' => (∃ u, e = .returned u) ∧ Kept w.heap.size W W' ∧ PlW w W' g N X d db rd rb vb bx by_ qs va rs av bv L M f (crR zs h) := by
  refine (rcrash_any rd rb N h a len cap zs hl hz W ((hI.below s.n.b).mono s.ge) (fun h0 p hp e => ?_) s.p.R).mono fun e W' ⟨he, h1, h2⟩ => ?_
  · rcases hI with h3 | ⟨b, off, h3, h4, _⟩
    · exact h0 h3
    · rw [hp] at h3
      simp only [Option.some.injEq] at h3
      subst h3
      have := s.p.rl
      simp only at e
      omega
  · obtain ⟨p', kp⟩ := s.p.devB h1 h2
    exact ⟨he, kp, s.to p' kp⟩
/-- New runs behind it. -/
theorem PlW.newA (hG : PlG g N X) (s : PlW w W g N X d db rd rb vb bx by_ qs va rs av bv L M f h) :
    Calls Tryz.prog 10 #[.pointer (some ⟨d, 0, none⟩), .agg #[.int .i64 g.w, .int .i64 g.i, .int .i64 g.b]] W fun e W' => ∃ va' vc' rs', e = .returned (.tuple #[.slice (some ⟨va', 0, none⟩) X vc', .bool true]) ∧ X ≤ vc' ∧ Nw W W' ∧ PlW w W' g N X d db rd rb vb bx by_ qs va' rs' (fun _ => none) bv (fun _ => []) M f h := by
  have hX1 : 1 ≤ X := by have := hG.m.1; rw [hG.w] at this; omega
  have hc := runs_any g hG.m d db N f (by rw [hG.nN]; exact Int.le_refl _) W s.p.D
  unfold gV at hc
  refine hc.mono fun e W' ⟨v, rs', he, hl, hown, hnr, hn⟩ => ?_
  have hl' : rs'.length = X := by rw [hG.w] at hl; omega
  obtain ⟨b, c, rfl, hc', hb, hp⟩ := PtsAt.of_own hown (by omega)
  rw [hl'] at he hc'
  exact ⟨b, c, rs', he, hc', hn, s.p.newA hn hnr s.ge, hl', s.ql, hp, (Kept.of_nw (n0 := w.heap.size) hn).pts (by decide) s.pb, s.g1.nw hn, s.g2.nw hn, s.n.trans hn⟩
/-- The document's run k is let go. -/
theorem PlW.clearB (s : PlW w W g N X d db rd rb vb bx by_ qs va rs av bv L M f h) {k : Nat} (hk : k < X) {r : Nat} (hr : qs[k]? = some r) :
    PlW w (W.setCell ⟨r, 5, none⟩ (.slice none 0 0)) g N X d db rd rb vb bx by_ qs va rs av (updF bv k none) L (updF M k []) f h ∧ Kept w.heap.size W (W.setCell ⟨r, 5, none⟩ (.slice none 0 0)) := by
  have hkr : k < qs.length := by rw [s.ql]; exact hk
  obtain rfl : qs[k] = r := by rw [List.getElem?_eq_getElem hkr] at hr; exact Option.some.inj hr
  obtain ⟨q, kp⟩ := s.p.clearB hkr s.ge
  exact ⟨s.to q kp, kp⟩
end
end Go.Proofs.YtkopfnldgnkkoaaGreat
