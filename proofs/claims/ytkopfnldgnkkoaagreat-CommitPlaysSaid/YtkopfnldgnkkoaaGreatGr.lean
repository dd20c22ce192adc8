import Derived.Test.YtkopfnldgnkkoaaGreatGs
import Derived.Test.YtkopfnldgnkkoaaGreatCmP
import Derived.Test.YtkopfnldgnkkoaaGreatCmW

/-
  THE LAW'S WRITES of a worker, in blocks of its own, each word once.
-/
namespace Go.Proofs.YtkopfnldgnkkoaaGreat
open Go.RowKit Go.Shelf
set_option linter.unusedVariables false

def wrAt (b : Int) (x : Pu) : Int := b + ((x.q % 16 : Nat) : Int)
def wrStep (b : Int) (o : List Wr) (x : Pu) : List Wr := if (o.any fun y => y.1 == wrAt b x) = true then o else o ++ [(wrAt b x, x.v)]
def wrL (b : Int) (l : List Pu) : List Wr := l.foldl (wrStep b) []
theorem wrL_succ {b : Int} {l : List Pu} {k : Nat} (h : k < l.length) : wrL b (l.take (k + 1)) = wrStep b (wrL b (l.take k)) l[k] := by
  unfold wrL
  rw [List.take_succ_eq_append_getElem h, List.foldl_append]; rfl
theorem wrStep_len (b : Int) (o : List Wr) (x : Pu) : (wrStep b o x).length ≤ o.length + 1 := by
  unfold wrStep; split
  · omega
  · simp
theorem wrL_len (b : Int) (l : List Pu) : (wrL b l).length ≤ l.length := by
  have : ∀ (l : List Pu) (o : List Wr), (l.foldl (wrStep b) o).length ≤ o.length + l.length := by
    intro l
    induction l with
    | nil => intro o; simp
    | cons x l ih => intro o; rw [List.foldl_cons, List.length_cons]; have := ih (wrStep b o x); have := wrStep_len b o x; omega
  simpa [wrL] using this l []
theorem any_take {α : Type} (p : α → Bool) (o : List α) {j : Nat} (h : j < o.length) : (o.take (j + 1)).any p = ((o.take j).any p || p o[j]) := by
  rw [List.take_succ_eq_append_getElem h, List.any_append]; simp only [List.any_cons, List.any_nil, Bool.or_false]
/-- What it tells. -/
def WritesR (l : List Wr) (w : World) (e : Ending) (w' : World) : Prop :=
  ∃ a c, e = .returned (.slice a l.length c) ∧ l.length ≤ c ∧ Pairs .i64 .u64 w'.heap.size w' a l ∧ Nw w w' ∧ (∀ p, a = some p → w.heap.size ≤ p.block) ∧ Shp a l.length c
set_option maxRecDepth 100000 in
set_option maxHeartbeats 8000000 in
theorem writes_any (g : G) (k : Nat) (hm : mayP g) (hk : 1 + 2 * (k : Int) ≤ g.b - 1) (al : Option Addr) (len cap n₀ : Nat) (l : List Pu) (hl : l.length = len) (hlm : len ≤ 1000) (w : World) (hn₀ : n₀ ≤ w.heap.size) (hI : Recs puC 2 n₀ w al l) (hq : ∀ x ∈ l, puOk x) :
    Calls Tryz.prog 36 #[gV g, .int .i64 k, .slice al len cap] w (WritesR (wrL (atN g 6 + 8 * (1 + 2 * (k : Int))) l) w) := by
  obtain ⟨i0, hi, hz0, hz1, hz2⟩ := info_parts8 info_wr
  have hpl : placeV g 6 (1 + 2 * (k : Int)) = atN g 6 + 8 * (1 + 2 * (k : Int)) := by
    have : placeV g 6 (1 + 2 * (k : Int)) = atN g 6 + sizeN 6 * (1 + 2 * (k : Int)) := if_pos ⟨hm, by omega, by simp only [manyN]; omega⟩
    rw [this]; simp only [sizeN]
  have hkk : (k : Int) ≤ 255 := by have := hm.2.2.2.2.2; omega
  obtain ⟨B, hB⟩ : ∃ B : Nat, (B : Int) = atN g 6 + 8 * (1 + 2 * (k : Int)) := ⟨(atN g 6 + 8 * (1 + 2 * (k : Int))).toNat, by have := (at_bd hm 6).1; omega⟩
  have hBB : (B : Int) ≤ 100000 := by have := (at_bd hm 6).2; omega
  have HBA : Hid (∀ W, Calls Tryz.prog 44 #[.agg #[.int .i64 g.w, .int .i64 g.i, .int .i64 g.b], .int .i64 (1 + 2 * (k : Int))] W fun e w' => e = .returned (.int .i64 B) ∧ At W w') := fun W => by
    have := block_at g (1 + 2 * (k : Int)) (w0 := W) (w := W) At.refl
    rw [hpl, ← hB] at this
    exact this
  rw [← hB]
  clear hpl hB hm hk
  have hb0 := Blk.new w #[.int .i64 g.w, .int .i64 g.i, .int .i64 g.b] 26
  have hn0 := (Nw.refl (w := w)).alloc (.cells #[.int .i64 g.w, .int .i64 g.i, .int .i64 g.b] 26)
  have HIW := Lib.hid (Recs.below (hn0.b.mono hn₀) hI)
  have HN0 := Lib.hid hn₀
  have HQ := Lib.hid hq
  have HL := Lib.hid hl
  clear hI hq hl hn₀
  unfold gV
  go_enter Tryz.func36, Tryz.ntmps36
  go_upto_region 1 with fail
  generalize w.alloc (.cells #[.int .i64 g.w, .int .i64 g.i, .int .i64 g.b] 26) = w1 at *
  generalize hbx : w.heap.size = bx at hb0
  have HBX := Lib.hid hbx
  have HB := Lib.hid hb0
  have HN1 := Lib.hid hn0
  clear hb0 hn0 hbx
  go_wp2_with fail
  go_loopw [8, 7] (fun i v wq => ∃ (j : Nat) (o : List Wr), j ≤ len ∧ i = .int .i64 j ∧ o = wrL B (l.take j) ∧ Nw w1 wq ∧ wq.ownsRow w1.heap.size 91 2 v o.length (prC o)) (fun i _ _ => len - (intOf i).toNat)
  case atStart => exact ⟨0, [], Nat.zero_le _, rfl, rfl, Nw.refl, rfl, .inl ⟨rfl, rfl⟩⟩
  case round =>
    obtain ⟨j, o, hj, rfl, ho, hn, how⟩ := hrel
    have HO := Lib.hid ho
    have HN := Lib.hid hn
    obtain ⟨va, vc, rfl, hvc, hP⟩ := Pairs.of_owns how
    have HOW := Lib.hid how
    have HP := Lib.hid hP
    have hom : o.length ≤ j := by rw [ho]; exact Nat.le_trans (wrL_len _ _) (by rw [List.length_take]; omega)
    obtain ⟨m, hmm⟩ : ∃ m, o.length = m := ⟨_, rfl⟩
    have HML := Lib.hid hmm
    rw [hmm] at hom hvc HOW
    clear ho hn how hP
    simp only [hmm]
    clear hmm
    by_cases hjl : j < len
    · have hjL : j < l.length := by rw [HL.out]; exact hjl
      have HST := Lib.hid (wrL_succ (b := B) hjL)
      obtain ⟨pb, po, rfl, hpb, p1, p2⟩ := pus_at HIW.out hjL
      have hpb1 : pb < w1.heap.size := (cell_lt p1).1
      have p1' : wr.cell? ⟨pb, po + j * 2, none⟩ = some (.int .u8 l[j].q) := (HN.out.b.cell (p := ⟨pb, _, none⟩) hpb1).trans p1
      have p2' : wr.cell? ⟨pb, po + j * 2 + 1, none⟩ = some (.int .u64 l[j].v) := (HN.out.b.cell (p := ⟨pb, _, none⟩) hpb1).trans p2
      have hx := HQ.out _ (List.getElem_mem hjL)
      obtain ⟨x, hxe⟩ : ∃ x, l[j] = x := ⟨_, rfl⟩
      rw [hxe] at p1' p2' hx HST
      obtain ⟨x1, x2⟩ := x
      obtain ⟨hx1, hx2⟩ := hx
      dsimp only at p1' p2' hx1 hx2
      obtain ⟨s, hs⟩ : ∃ s, s = x1 % 16 := ⟨_, rfl⟩
      obtain ⟨A, hA⟩ : ∃ A : Nat, A = B + s := ⟨_, rfl⟩
      have HWA := Lib.hid (show wrAt B ⟨x1, x2⟩ = (A : Int) by unfold wrAt; dsimp only; omega)
      have HH := Lib.hid (And.intro (show (x1 : Int).tmod 16 = (s : Int) by rw [Int.tmod_eq_emod_of_nonneg (by omega)]; omega) (And.intro (show IntKind.i64.wrap (s : Int) = (s : Int) from IntWalk.i64_in _ (by omega)) (And.intro (show IntKind.i64.wrap ((B : Int) + (s : Int)) = (A : Int) by rw [show (B : Int) + (s : Int) = (A : Int) by omega]; exact IntWalk.i64_in _ (by omega))
        (And.intro (show IntKind.i64.wrap (2 * (k : Int)) = 2 * (k : Int) from IntWalk.i64_in _ (by omega)) (show IntKind.i64.wrap (1 + 2 * (k : Int)) = 1 + 2 * (k : Int) from IntWalk.i64_in _ (by omega))))))
      have hA2 : (A : Int) ≤ 200000 := by omega
      clear p1 p2 hxe hx2 hpb hs hA
      have c0 : wr.cell? ⟨bx, 0, none⟩ = some (.int .i64 g.w) := (HB.out.nw HN.out).cell rfl
      have c1 : wr.cell? ⟨bx, 1, none⟩ = some (.int .i64 g.i) := (HB.out.nw HN.out).cell rfl
      have c2 : wr.cell? ⟨bx, 2, none⟩ = some (.int .i64 g.b) := (HB.out.nw HN.out).cell rfl
      have HK9 : Hid (∀ W, Nw wr W → W.cell? ⟨bx, 0, none⟩ = some (.int .i64 g.w) ∧ W.cell? ⟨bx, 1, none⟩ = some (.int .i64 g.i) ∧ W.cell? ⟨bx, 2, none⟩ = some (.int .i64 g.b) ∧ W.cell? ⟨pb, po + j * 2, none⟩ = some (.int .u8 x1)) :=
        fun W q => ⟨((HB.out.nw HN.out).nw q).cell rfl, ((HB.out.nw HN.out).nw q).cell rfl, ((HB.out.nw HN.out).nw q).cell rfl, (q.b.cell (p := ⟨pb, _, none⟩) (cell_lt p1').1).trans p1'⟩
      have HP2 := Lib.hid p2'
      have hj0 : (j : Int) < (len : Int) := by omega
      have hjn : (0 : Int) ≤ (j : Int) := by omega
      clear p2'
      go_wp2_with fail
      obtain ⟨e1, e2, e3, e4, e5⟩ := HH.out
      go_region_held3 (fun w' => w'.cell? ⟨bx, 0, none⟩ = some (.int .i64 g.w) ∧ w'.cell? ⟨bx, 1, none⟩ = some (.int .i64 g.i) ∧ w'.cell? ⟨bx, 2, none⟩ = some (.int .i64 g.b) ∧ w'.cell? ⟨pb, po + j * 2, none⟩ = some (.int .u8 x1))
        (first | (exact HK9.out _ Nw.refl.drew) | (exact HK9.out _ hk9))
        ((first
          | (go_at_call 44; (with_reducible refine (HBA.out _).mono ?_); rintro e w6 ⟨rfl, h6⟩; have hk9 := (Nw.refl (w := wr)).drew.trans h6.nw)))
      have HN6 := Lib.hid (HN.out.trans hk9)
      have HOW6 := Lib.hid (own_below hk9.b HOW.out)
      have HP6 := Lib.hid (show Pairs .i64 .u64 w6.heap.size w6 va o from by
        obtain ⟨va', vc', he, _, h⟩ := Pairs.of_owns (w := w6) (v := .slice va m vc) (l := o) (by rw [HML.out]; exact HOW6.out)
        simp only [Value.slice.injEq] at he
        obtain ⟨rfl, _, _⟩ := he
        exact h)
      have HPP := Lib.hid (show w6.cell? ⟨pb, po + j * 2 + 1, none⟩ = some (.int .u64 x2) from (hk9.b.cell (p := ⟨pb, _, none⟩) (cell_lt HP2.out).1).trans HP2.out)
      clear c0 c1 c2 p1' HK9 HP2 HH HP HOW HN h6 hk9 e1 e2 e3 e4 e5
      go_wp2_with fail
      go_loopw [11, 10] (fun i t wq => ∃ q : Nat, q ≤ m ∧ i = .int .i64 q ∧ t = .bool ((o.take q).any fun y => y.1 == (A : Int)) ∧ wq = w6) (fun i _ _ => m - (intOf i).toNat)
      case atStart => exact ⟨0, Nat.zero_le _, rfl, rfl, rfl⟩
      case round =>
        obtain ⟨q, hq, rfl, rfl, rfl⟩ := hrel
        by_cases hqm : q < m
        · have hqo : q < o.length := by rw [HML.out]; exact hqm
          obtain ⟨ob, oo, rfl, f1, f2⟩ := Pairs.at HP6.out hqo
          have HAN := Lib.hid (any_take (fun y : Wr => y.1 == (A : Int)) o hqo)
          generalize o[q] = y at *
          obtain ⟨y1, y2⟩ := y
          dsimp only at f1 HAN
          have hq0 : (q : Int) < (m : Int) := by omega
          have hqn : (0 : Int) ≤ (q : Int) := by omega
          generalize (o.take q).any (fun y => y.1 == (A : Int)) = bb at *
          cases bb
          · go_wp2_with fail
            go_roundw
            case rel => exact ⟨q + 1, by omega, by go_num, by rw [HAN.out]; simp, trivial⟩
            case measure => simp [intOf]; omega
          · go_wp2_with fail
            go_roundw
            case rel => exact ⟨q + 1, by omega, by go_num, by rw [HAN.out]; rfl, trivial⟩
            case measure => simp [intOf]; omega
        · obtain rfl : q = m := by omega
          rw [List.take_of_length_le (by rw [HML.out]; exact Nat.le_refl _)]
          have p2 := HPP.out
          have hs6 := HN6.out.b.size
          cases hbb : (o.any fun y => y.1 == (A : Int))
          · have HAD := Lib.hid (show wrL B (l.take (j + 1)) = o ++ [((A : Int), x2)] by
              rw [HST.out, ← HO.out]; unfold wrStep; rw [HWA.out, if_neg (by rw [hbb]; simp)])
            clear hbb
            go_wp2_with (first | (at_builtin; go_loud (refine wpList_append_own _ rfl (.tmp 49) (.tmp 57) 43 rfl w1.heap.size 91 i0 (.agg #[.int .i64 0, .int .u64 0]) 2 16 Tryz.underlying43 hi hz0 hz1 hz2 rfl (by decide) _ q _ rfl (HOW6.out.alloc _) ⟨wr.heap.size, 0, none⟩ 1 1 [.int .i64 (A : Int), .int .u64 x2] rfl rfl (two_cells _ _ _ _) (by intro u hu; simp at hu; rcases hu with rfl | rfl <;> rfl) (by unfold maxLen; omega) (by omega) (by simp; omega) ?_); intro v3 w3 hown3 hgrow3 _; have hb3 : Below w1.heap.size w1 w3 := Below.grownRow (HN6.out.b.alloc hs6 _) hgrow3 (by simp; omega) (HOW6.out.alloc _) (Nat.le_refl _); clear hgrow3; rw [← prC_snoc o ((A : Int), x2)] at hown3; have HO3 := Lib.hid hown3; clear hown3) | fail)
            go_roundw
            case rel => exact ⟨j + 1, _, by omega, by go_num, rfl, ⟨hb3⟩, by rw [HAD.out, List.length_append, HML.out]; exact HO3.out⟩
            case measure => simp [intOf]; omega
          · have HAD := Lib.hid (show wrL B (l.take (j + 1)) = o by
              rw [HST.out, ← HO.out]; unfold wrStep; rw [HWA.out, if_pos hbb])
            clear hbb
            go_wp2_with fail
            go_roundw
            case rel => exact ⟨j + 1, _, by omega, by go_num, rfl, HN6.out, by rw [HAD.out, HML.out]; exact HOW6.out⟩
            case measure => simp [intOf]; omega
    · obtain rfl : j = len := by omega
      rw [List.take_of_length_le (by rw [HL.out]; exact Nat.le_refl _)] at HO
      go_wp2_with fail
      go_ret
      refine ⟨va, vc, by rw [← HO.out, HML.out]; rfl, by rw [← HO.out, HML.out]; exact hvc, by rw [← HO.out]; exact HP.out, HN1.out.trans HN.out, ?_, by rw [← HO.out, HML.out]; exact own_shp HOW.out⟩
      intro p hp
      exact Nat.le_trans HN1.out.b.size (own_fresh HOW.out p hp)
end Go.Proofs.YtkopfnldgnkkoaaGreat

/-
  THE LAW'S WRITES, PLAINLY: they may be; how many steps of each phase they have.
-/
namespace Go.Proofs.YtkopfnldgnkkoaaGreat
open Go.RowKit Go.Shelf
set_option linter.unusedVariables false

/-- In the worker's blocks, each word once. -/
structure InB (b : Int) (o : List Wr) : Prop where
  i : ∀ x ∈ o, b ≤ x.1 ∧ x.1 < b + 16 ∧ u64 x.2
  a : o.Pairwise fun x y => x.1 ≠ y.1
theorem InB.step {b : Int} {o : List Wr} (h : InB b o) {x : Pu} (hx : puOk x) : InB b (wrStep b o x) := by
  unfold wrStep
  by_cases e : (o.any fun y => y.1 == wrAt b x) = true
  · rw [if_pos e]; exact h
  · rw [if_neg e]
    refine ⟨fun y hy => ?_, ?_⟩
    · rcases List.mem_append.1 hy with hy | hy
      · exact h.i y hy
      · rw [List.mem_singleton.1 hy]
        unfold wrAt; dsimp only
        exact ⟨by omega, by omega, hx.2⟩
    · rw [List.pairwise_append]
      refine ⟨h.a, List.pairwise_singleton _ _, fun y hy z hz => ?_⟩
      rw [List.mem_singleton.1 hz]
      intro e2
      exact e (List.any_eq_true.2 ⟨y, hy, by simpa using e2⟩)
theorem wr_in {b : Int} : ∀ (l : List Pu) (o : List Wr), InB b o → (∀ x ∈ l, puOk x) → InB b (l.foldl (wrStep b) o)
  | [], o, h, _ => h
  | x :: l, o, h, hl => wr_in l (wrStep b o x) (h.step (hl x List.mem_cons_self)) fun y hy => hl y (List.mem_cons_of_mem _ hy)
theorem wrL_in {b : Int} {l : List Pu} (hl : ∀ x ∈ l, puOk x) : InB b (wrL b l) := wr_in l [] ⟨by simp, List.Pairwise.nil⟩ hl
/-- Such writes may be. -/
theorem inB_may {g : G} {b : Int} {o : List Wr} (hm : mayP g) (h : InB b o) (hn : o.length ≤ 96) (h0 : atN g 6 ≤ b) (h1 : b + 16 ≤ atN g 7) : mayW g o = true := by
  unfold mayW
  rw [mayB_true.2 hm, decide_eq_true hn]
  simp only [Bool.and_self, Bool.true_and]
  refine List.all_eq_true.2 fun i hi => ?_
  have hi := List.mem_range.1 hi
  have hat : ∀ j (hj : j < o.length), atW o j = o[j].1 := fun j hj => by simp [atW, hj]
  have hx := h.i _ (List.getElem_mem hi)
  unfold okAt
  rw [hat i hi, Bool.and_eq_true]
  refine ⟨?_, List.all_eq_true.2 fun j hj => ?_⟩
  · simp only [atN] at h0 h1
    rw [row6 hm (by omega) (by omega)]; rfl
  · have hj := List.mem_range.1 hj
    rw [hat j (by omega), hat i hi, bne_iff_ne]
    exact List.pairwise_iff_getElem.1 h.a j i (by omega) hi hj

/-! ### Counting -/
def cntL (p : Nat → Bool) (M : Nat) : Nat := ((List.range M).filter p).length
theorem cntL_succ (p : Nat → Bool) (M : Nat) : cntL p (M + 1) = cntL p M + if p M = true then 1 else 0 := by
  unfold cntL
  rw [List.range_succ, List.filter_append, List.length_append]
  by_cases h : p M = true
  · rw [if_pos h]; simp [h]
  · rw [if_neg h]; simp [h]
theorem cntL_zero (p : Nat → Bool) : cntL p 0 = 0 := rfl
theorem cntL_le (p : Nat → Bool) : ∀ M, cntL p M ≤ M
  | 0 => Nat.le_refl _
  | M + 1 => by rw [cntL_succ]; have := cntL_le p M; split <;> omega
theorem cntL_cut (p : Nat → Bool) (M : Nat) (h : ∀ z, M ≤ z → p z = false) : ∀ d, cntL p (M + d) = cntL p M
  | 0 => rfl
  | d + 1 => by rw [← Nat.add_assoc, cntL_succ, cntL_cut p M h d, h _ (by omega)]; rfl
theorem cntL_iv (p : Nat → Bool) (c m : Nat) (h : ∀ z, p z = true ↔ c ≤ z ∧ z < c + m) : ∀ M, cntL p M = min M (c + m) - min M c
  | 0 => by simp [cntL_zero]
  | M + 1 => by
    rw [cntL_succ, cntL_iv p c m h M]
    by_cases hp : p M = true
    · rw [if_pos hp]; have := (h M).1 hp; omega
    · rw [if_neg hp]
      have : ¬ (c ≤ M ∧ M < c + m) := fun hh => hp ((h M).2 hh)
      omega
theorem cntL_congr {p q : Nat → Bool} (h : ∀ z, p z = q z) (M : Nat) : cntL p M = cntL q M := by rw [show p = q from funext h]
theorem lines_len (zs : List Int) : (linesOf zs).length = cntL (fun k => decide ((k : Int) ∈ zs)) 8192 := by
  unfold linesOf cntL
  rw [List.length_map]
theorem lines_one (x v : Int) (h0 : 0 ≤ x) (h1 : x < 65536) : (linesOf (lineL [(x, v)])).length = 1 := by
  rw [lines_len, cntL_iv _ (x / 8).toNat 1 (fun z => by simp [lineL]; omega)]
  omega
/-- Of a record that stands at the beginning of a line. -/
theorem lines_own (c : Nat) (ws : List Int) (hl : 8 * c + 8 + ws.length ≤ 65536) : (linesOf (lineL (ownW (8 * (c : Int)) ws))).length = (ws.length + 7) / 8 := by
  rw [lines_len, cntL_iv _ (c + 1) ((ws.length + 7) / 8) (fun z => ?_)]
  · omega
  · rw [decide_eq_true_eq]
    unfold lineL ownW
    simp only [List.map_map, List.mem_map, List.mem_range, Function.comp]
    constructor
    · rintro ⟨i, hi, e⟩; omega
    · rintro ⟨h1, h2⟩
      exact ⟨8 * (z - (c + 1)), by omega, by omega⟩
/-- Does a write stand in a line? -/
def inLine (o : List Wr) (k : Nat) : Bool := o.any fun y => y.1.tdiv 8 == (k : Int)
theorem lines_in (o : List Wr) (M : Nat) (hM : M ≤ 8192) (h : ∀ x ∈ o, 0 ≤ x.1 ∧ x.1 < 8 * (M : Int)) : (linesOf (lineL o)).length = cntL (inLine o) M := by
  have e : ∀ z : Nat, decide ((z : Int) ∈ lineL o) = inLine o z := fun z => by
    rw [Bool.eq_iff_iff, decide_eq_true_eq]
    unfold inLine lineL
    rw [List.any_eq_true, List.mem_map]
    constructor
    · rintro ⟨x, hx, e⟩
      have := h x hx
      exact ⟨x, hx, by rw [beq_iff_eq, Int.tdiv_eq_ediv_of_nonneg this.1]; exact e⟩
    · rintro ⟨x, hx, e⟩
      have := h x hx
      rw [beq_iff_eq, Int.tdiv_eq_ediv_of_nonneg this.1] at e
      exact ⟨x, hx, e⟩
  rw [lines_len, cntL_congr e]
  obtain ⟨d, hd⟩ : ∃ d, 8192 = M + d := ⟨8192 - M, by omega⟩
  rw [hd]
  refine cntL_cut _ M (fun z hz => ?_) d
  rw [Bool.eq_false_iff]
  intro hh
  unfold inLine at hh
  rw [List.any_eq_true] at hh
  obtain ⟨x, hx, e⟩ := hh
  have := h x hx
  rw [beq_iff_eq, Int.tdiv_eq_ediv_of_nonneg this.1] at e
  omega

/-! ### The phases -/
def cntP (q : Int) (L : List St) : Nat := (L.filter fun s => s.p == q).length
theorem cntP_append (q : Int) (L M : List St) : cntP q (L ++ M) = cntP q L + cntP q M := by simp [cntP]
theorem cntP_all {q p : Int} {L : List St} (h : ∀ s ∈ L, s.p = p) : cntP q L = if p = q then L.length else 0 := by
  unfold cntP
  by_cases e : p = q
  · rw [if_pos e, List.filter_eq_self.2 (fun s hs => by rw [h s hs, e]; simp)]
  · rw [if_neg e, List.filter_eq_nil_iff.2 (fun s hs => by rw [h s hs]; simpa using e)]; rfl
theorem cntP_take {q : Int} {L : List St} {j : Nat} (h : j < L.length) : cntP q (L.take (j + 1)) = cntP q (L.take j) + if L[j].p = q then 1 else 0 := by
  rw [List.take_succ_eq_append_getElem h, cntP_append]
  congr 1
  unfold cntP
  by_cases e : L[j].p = q
  · rw [if_pos e]; simp [e]
  · rw [if_neg e]; simp [e]
theorem store_p (p : Int) (l : List Wr) : ∀ s ∈ storeL p l, s.p = p := fun s hs => by
  obtain ⟨x, _, rfl⟩ := List.mem_map.1 hs; rfl
theorem settle_p (p : Int) (l : List Wr) : ∀ s ∈ settleL p l, s.p = p := fun s hs => by
  rcases List.mem_append.1 hs with hs | hs
  · obtain ⟨x, _, rfl⟩ := List.mem_map.1 hs; rfl
  · rw [List.mem_singleton.1 hs]
theorem settle_len (p : Int) (l : List Wr) : (settleL p l).length = (linesOf (lineL l)).length + 1 := by
  unfold settleL; rw [List.length_append, flushL9_len]; rfl
theorem cntP_both (q p p' : Int) (l : List Wr) : cntP q (bothL p p' l) = (if p = q then l.length else 0) + if p' = q then (linesOf (lineL l)).length + 1 else 0 := by
  unfold bothL
  rw [cntP_append, cntP_all (store_p p l), cntP_all (settle_p p' l), storeL_len, settle_len]
theorem both_p {p q : Int} {l : List Wr} : ∀ s ∈ bothL p q l, s.p = p ∨ s.p = q := fun s hs => by
  rcases List.mem_append.1 hs with hs | hs
  · exact .inl (store_p p l s hs)
  · exact .inr (settle_p q l s hs)
def Rise (L : List St) : Prop := L.Pairwise fun s t => s.p ≤ t.p
theorem rise_all {p : Int} {L : List St} (h : ∀ s ∈ L, s.p = p) : Rise L := by
  unfold Rise
  rw [List.pairwise_iff_getElem]
  intro i j hi hj _
  rw [h _ (List.getElem_mem hi), h _ (List.getElem_mem hj)]
  exact Int.le_refl _
theorem rise_append {L M : List St} (a : Int) (hL : Rise L) (hM : Rise M) (h1 : ∀ s ∈ L, s.p ≤ a) (h2 : ∀ s ∈ M, a ≤ s.p) : Rise (L ++ M) := by
  unfold Rise
  rw [List.pairwise_append]
  exact ⟨hL, hM, fun s hs t ht => Int.le_trans (h1 s hs) (h2 t ht)⟩
theorem rise_both {p q : Int} (h : p ≤ q) (l : List Wr) : Rise (bothL p q l) :=
  rise_append p (rise_all (store_p p l)) (rise_all (settle_p q l)) (fun s hs => by rw [store_p p l s hs]; exact Int.le_refl _) (fun s hs => by rw [settle_p q l s hs]; exact h)
theorem begin_rise (area : Int) (l : List Wr) : Rise (beginL area l) ∧ ∀ s ∈ beginL area l, 1 ≤ s.p ∧ s.p ≤ 6 := by
  unfold beginL applyL markL
  have hb : ∀ {p q : Int} {l : List Wr} {a b : Int}, a ≤ p → p ≤ b → a ≤ q → q ≤ b → ∀ s ∈ bothL p q l, a ≤ s.p ∧ s.p ≤ b := fun h1 h2 h3 h4 s hs => by
    rcases both_p s hs with h | h <;> rw [h] <;> exact ⟨by assumption, by assumption⟩
  have hc : ∀ {L M : List St} {a b : Int}, (∀ s ∈ L, a ≤ s.p ∧ s.p ≤ b) → (∀ s ∈ M, a ≤ s.p ∧ s.p ≤ b) → ∀ s ∈ L ++ M, a ≤ s.p ∧ s.p ≤ b := fun h1 h2 s hs => by
    rcases List.mem_append.1 hs with h | h
    · exact h1 s h
    · exact h2 s h
  refine ⟨?_, ?_⟩
  · refine rise_append 3 (rise_append 2 (rise_both (by decide) _) (rise_both (by decide) _) (fun s hs => ?_) (fun s hs => ?_)) (rise_append 5 (rise_both (by decide) _) (rise_both (by decide) _) (fun s hs => ?_) (fun s hs => ?_)) (fun s hs => ?_) (fun s hs => ?_)
    · exact (hb (a := 1) (b := 2) (by decide) (by decide) (by decide) (by decide) s hs).2
    · exact (hb (a := 2) (b := 3) (by decide) (by decide) (by decide) (by decide) s hs).1
    · exact (hb (a := 1) (b := 5) (by decide) (by decide) (by decide) (by decide) s hs).2
    · exact (hb (a := 5) (b := 6) (by decide) (by decide) (by decide) (by decide) s hs).1
    · exact (hc (hb (a := 1) (b := 3) (by decide) (by decide) (by decide) (by decide)) (hb (by decide) (by decide) (by decide) (by decide)) s hs).2
    · exact (hc (hb (a := 3) (b := 6) (by decide) (by decide) (by decide) (by decide)) (hb (by decide) (by decide) (by decide) (by decide)) s hs).1
  · exact hc (hc (hb (by decide) (by decide) (by decide) (by decide)) (hb (by decide) (by decide) (by decide) (by decide))) (hc (hb (by decide) (by decide) (by decide) (by decide)) (hb (by decide) (by decide) (by decide) (by decide)))
/-- What the law wants of each phase. -/
def wantL (n m : Nat) : List Nat := [0, 2 + 2 * n, (2 + 2 * n + 7) / 8 + 1, 3, n, m + 1, 3]
theorem begin_cnt (c : Nat) (l : List Wr) (hn : l.length ≤ 96) (hc : 8 * c + 208 ≤ 65536) (q : Nat) (hq : q < 7) : cntP (q : Int) (beginL (8 * (c : Int)) l) = (wantL l.length (linesOf (lineL l)).length)[q]?.getD 0 := by
  unfold beginL applyL markL
  rw [cntP_append, cntP_append, cntP_append, cntP_both, cntP_both, cntP_both, cntP_both, ownW_len, recL_len, lines_own c (recL l) (by rw [recL_len]; omega), lines_one _ _ (by omega) (by omega), lines_one _ _ (by omega) (by omega), recL_len]
  match q, hq with
  | 0, _ => rfl
  | 1, _ => simp [wantL]
  | 2, _ => simp [wantL]
  | 3, _ => simp [wantL]
  | 4, _ => simp [wantL]
  | 5, _ => simp [wantL]
  | 6, _ => simp [wantL]
theorem begin_len (c : Nat) (l : List Wr) (hn : l.length ≤ 96) (hc : 8 * c + 208 ≤ 65536) : (beginL (8 * (c : Int)) l).length = (wantL l.length (linesOf (lineL l)).length).sum := by
  have hb : ∀ p q (l : List Wr), (bothL p q l).length = l.length + ((linesOf (lineL l)).length + 1) := fun p q l => by unfold bothL; rw [List.length_append, storeL_len, settle_len]
  unfold beginL applyL markL
  rw [List.length_append, List.length_append, List.length_append, hb, hb, hb, hb, ownW_len, recL_len, lines_own c (recL l) (by rw [recL_len]; omega), lines_one _ _ (by omega) (by omega), lines_one _ _ (by omega) (by omega), recL_len]
  simp [wantL]
  omega
end Go.Proofs.YtkopfnldgnkkoaaGreat

/-
  WRITES THAT ARE UNDER WAY, PLAINLY: Over of what is seen is all of them, or none.
-/
namespace Go.Proofs.YtkopfnldgnkkoaaGreat
open Go.RowKit Go.Shelf
set_option linter.unusedVariables false

/-- Words as a function. -/
def fnL (zs : List Int) : Nat → Int := fun k => zs[k]?.getD 0
theorem list_eq {xs ys : List Int} (hl : xs.length = ys.length) (h : ∀ k, k < xs.length → fnL xs k = fnL ys k) : xs = ys := by
  refine List.ext_getElem hl fun k h1 h2 => ?_
  have := h k h1
  unfold fnL at this
  rw [List.getElem?_eq_getElem h1, List.getElem?_eq_getElem h2] at this
  exact this
theorem wrote_cons (x : Wr) (l : List Wr) (s : Nat → Int) : wrote (x :: l) s = wrote l (fun k => if k = x.1.toNat then x.2 else s k) := rfl
theorem wrote_out : ∀ (l : List Wr) (s : Nat → Int) (k : Nat), (∀ x ∈ l, x.1.toNat ≠ k) → wrote l s k = s k
  | [], s, k, _ => rfl
  | x :: l, s, k, h => by
    rw [wrote_cons, wrote_out l _ k fun y hy => h y (List.mem_cons_of_mem _ hy)]
    exact if_neg (Ne.symm (h x List.mem_cons_self))
theorem wrote_congr : ∀ (l : List Wr) (s t : Nat → Int) (k : Nat), s k = t k → wrote l s k = wrote l t k
  | [], s, t, k, h => h
  | x :: l, s, t, k, h => by
    rw [wrote_cons, wrote_cons]
    refine wrote_congr l _ _ k ?_
    rw [h]
theorem wrote_in : ∀ (l : List Wr) (s t : Nat → Int) (k : Nat), (∃ x ∈ l, x.1.toNat = k) → wrote l s k = wrote l t k
  | x :: l, s, t, k, h => by
    rw [wrote_cons, wrote_cons]
    by_cases e : x.1.toNat = k
    · refine wrote_congr l _ _ k ?_
      rw [if_pos e.symm, if_pos e.symm]
    · obtain ⟨y, hy, e2⟩ := h
      rcases List.mem_cons.1 hy with rfl | hy
      · exact absurd e2 e
      · exact wrote_in l _ _ k ⟨y, hy, e2⟩
theorem wrote_uniq : ∀ (l : List Wr) (s : Nat → Int) (x : Wr), x ∈ l → (l.Pairwise fun a b => a.1.toNat ≠ b.1.toNat) → wrote l s x.1.toNat = x.2
  | y :: l, s, x, hx, h => by
    rw [wrote_cons]
    rw [List.pairwise_cons] at h
    rcases List.mem_cons.1 hx with rfl | hx
    · rw [wrote_out l _ _ fun z hz => Ne.symm (h.1 z hz)]
      exact if_pos rfl
    · exact wrote_uniq l _ x hx h.2
/-- Some of them first, all of them then: all of them. -/
theorem wrote_some (l : List Wr) (t : Nat) (s : Nat → Int) (k : Nat) : wrote l (wrote (l.take t) s) k = wrote l s k := by
  by_cases h : ∃ x ∈ l, x.1.toNat = k
  · exact wrote_in l _ _ k h
  · refine wrote_congr l _ _ k (wrote_out _ _ k fun x hx e => h ⟨x, List.mem_of_mem_take hx, e⟩)
theorem putsL_fn : ∀ (l : List Wr) (zs : List Int) (k : Nat), k < zs.length → fnL (putsL zs l) k = wrote l (fnL zs) k
  | [], zs, k, _ => rfl
  | x :: l, zs, k, hk => by
    show fnL (putsL (zs.set x.1.toNat x.2) l) k = _
    rw [putsL_fn l _ k (by rw [List.length_set]; exact hk), wrote_cons]
    refine wrote_congr l _ _ k ?_
    show (zs.set x.1.toNat x.2)[k]?.getD 0 = _
    by_cases e : k = x.1.toNat
    · subst e; rw [if_pos rfl, List.getElem?_set_self hk]; rfl
    · rw [if_neg e, List.getElem?_set_ne (Ne.symm e)]; rfl

/-! ### What Over is, word by word -/
theorem ovTo_fn (g : G) (ws : List Int) (k : Nat) (hk : k < ws.length) : ∀ K, fnL (ovTo g ws K) k = wrote ((List.range K).flatMap fun j => comL g (areaL ws j)) (fnL ws) k
  | 0 => rfl
  | K + 1 => by
    show fnL (putsL (ovTo g ws K) (comL g (areaL ws K))) k = _
    rw [putsL_fn _ _ _ (by rw [ovTo_len]; exact hk), List.range_succ, List.flatMap_append, wrote_append]
    simp only [List.flatMap_cons, List.flatMap_nil, List.append_nil]
    exact wrote_congr _ _ _ _ (ovTo_fn g ws k hk K)
/-- Where the areas stand. -/
def inAr (g : G) (k : Nat) : Prop := 264 ≤ k ∧ k < 264 + 208 * g.w.toNat
instance (g : G) (k : Nat) : Decidable (inAr g k) := by unfold inAr; infer_instance
def comAll (g : G) (ws : List Int) : List Wr := (List.range g.w.toNat).flatMap fun j => comL g (areaL ws j)
theorem overL_fn {g : G} {ws : List Int} (ho : ovOk g ws.length) (k : Nat) (hk : k < ws.length) : fnL (overL g ws) k = if inAr g k then 0 else wrote (comAll g ws) (fnL ws) k := by
  unfold overL
  rw [if_pos ho]
  show (clr (ovTo g ws g.w.toNat) (264 + 208 * g.w.toNat))[k]?.getD 0 = _
  rw [clr_at, List.getElem?_eq_getElem (by rw [ovTo_len]; exact hk)]
  simp only [Option.map_some, Option.getD_some]
  have h2 := ovTo_fn g ws k hk g.w.toNat
  unfold fnL at h2
  rw [List.getElem?_eq_getElem (by rw [ovTo_len]; exact hk)] at h2
  simp only [Option.getD_some] at h2
  by_cases h : inAr g k
  · rw [if_pos h]; exact if_pos h
  · rw [if_neg h]; exact (if_neg h).trans h2
theorem overL_len' {g : G} {ws : List Int} (ho : ovOk g ws.length) : (overL g ws).length = ws.length := by
  unfold overL; rw [if_pos ho, clr_len, ovTo_len]

/-! ### A record that stands in an area -/
theorem mark_rec {o : List Wr} (hn : o.length ≤ 96) (hok : okW o) (hg : neg o = false) (z : List Int) : markV (recL o ++ z) = markV (recL o) ∧ markV (recL o) ≠ 0 := by
  have hs : u64 (sumOf (bodyL o)) := rec_u64 hn hok hg _ (by unfold recL; simp)
  have h1 := (Has.of_rec hn z).mark hs
  have h2 := (Has.of_rec hn []).mark hs
  rw [List.append_nil] at h2
  exact ⟨h1.trans h2.symm, by rw [h2]; have := Int.emod_nonneg (sumOf (bodyL o) * 65536) (b := 18446744073709551616) (by decide); omega⟩
theorem com_rec {g : G} {o : List Wr} (hm : mayW g o = true) (hok : okW o) {ar z : List Int} (ha : ar.drop 8 = recL o ++ z) (hh : hd ar = markV (recL o)) : comL g ar = o := by
  have hn := (may_small hm).1
  have hg := may_neg hm
  have hmk := mark_rec hn hok hg z
  have hH := Has.of_rec hn z
  have hrd : readOk g (recL o ++ z) = true := by rw [hH.ok_may g]; exact hm
  unfold comL comOk
  rw [ha, hh, hrd, hmk.1]
  rw [if_pos (by simp [hmk.2])]
  unfold readL
  rw [if_pos hrd, hH.readN, hH.pairs]

/-- The writes of a run of a worker's. -/
def runW (area : Int) (o : List Wr) : List Wr := ownW area (recL o) ++ [(area, markV (recL o))] ++ (o ++ [(area, 0)])
theorem own_apart (area : Int) (h0 : 0 ≤ area) (ws : List Int) : (ownW area ws).Pairwise fun a b => a.1.toNat ≠ b.1.toNat := by
  unfold ownW
  rw [List.pairwise_map]
  refine List.Pairwise.imp ?_ List.pairwise_lt_range
  intro a b h; dsimp only; omega
theorem own_mem {area : Int} {ws : List Int} {x : Wr} (h : x ∈ ownW area ws) : ∃ i, i < ws.length ∧ x = (area + 8 + (i : Int), ws[i]?.getD 0) := by
  simp only [ownW, List.mem_map, List.mem_range] at h
  obtain ⟨i, hi, rfl⟩ := h
  exact ⟨i, hi, rfl⟩
theorem own_at (area : Nat) (ws : List Int) (s : Nat → Int) (j : Nat) (hj : j < ws.length) : wrote (ownW (area : Int) ws) s (area + 8 + j) = ws[j]?.getD 0 := by
  have hm : ((area : Int) + 8 + (j : Int), ws[j]?.getD 0) ∈ ownW (area : Int) ws := by
    simp only [ownW, List.mem_map, List.mem_range]; exact ⟨j, hj, rfl⟩
  have := wrote_uniq _ s _ hm (own_apart (area : Int) (by omega) ws)
  dsimp only at this
  rw [show ((area : Int) + 8 + (j : Int)).toNat = area + 8 + j by omega] at this
  exact this
/-- A beginning of the writes. -/
theorem runW_take (area : Int) (o : List Wr) (i : Nat) : (∃ j, (runW area o).take i = (ownW area (recL o)).take j) ∨ (∃ j, (runW area o).take i = ownW area (recL o) ++ [(area, markV (recL o))] ++ o.take j) ∨ (runW area o).take i = runW area o := by
  unfold runW
  by_cases h1 : i ≤ (ownW area (recL o)).length
  · exact .inl ⟨i, by rw [List.append_assoc, List.take_append_of_le_length h1]⟩
  · by_cases h2 : i ≤ (ownW area (recL o)).length + 1 + o.length
    · refine .inr (.inl ⟨i - ((ownW area (recL o)).length + 1), ?_⟩)
      rw [List.take_append, List.take_of_length_le (by simp; omega)]
      congr 1
      rw [List.take_append_of_le_length (by simp; omega)]
      simp
    · exact .inr (.inr (List.take_of_length_le (by simp; omega)))
/-- ALL OF THEM: Over of what is seen is all. -/
theorem quiet_all {g : G} {base : List Int} {o : List Wr} {m : Nat} (ho : ovOk g base.length) (hz : ∀ k, inAr g k → fnL base k = 0) (hm : (m : Int) < g.w) (hmay : mayW g o = true) (hok : okW o) (hout : ∀ x ∈ o, ¬ inAr g x.1.toNat)
    : overL g (putsL base (runW (264 + 208 * (m : Int)) o)) = putsL base o := by
  obtain ⟨hwm, hww⟩ := ho
  have ho : ovOk g base.length := ⟨hwm, hww⟩
  have hw1 : 1 ≤ g.w ∧ g.w ≤ 4 := ⟨hwm.1, hwm.2.1⟩
  have hn := (may_small hmay).1
  have hmk := (mark_rec hn hok (may_neg hmay) []).2
  have hrl := recL_len o
  obtain ⟨A, hA⟩ : ∃ A : Nat, A = 264 + 208 * m := ⟨_, rfl⟩
  have hAi : (264 + 208 * (m : Int)) = (A : Int) := by omega
  rw [hAi]
  have hAend := (ov_words ho m hm).1
  -- of a list of writes: what is seen of words
  have hlen : ∀ P, (putsL base P).length = base.length := fun P => putsL_len base P
  -- the areas' commit words
  have hcom0 : ∀ (S : List Int), S.length = base.length → (∀ j : Nat, (j : Int) < g.w → fnL S (264 + 208 * j) = 0) → comAll g S = [] := fun S hS h => by
    unfold comAll
    rw [List.flatMap_eq_nil_iff]
    intro j hj
    have hj := List.mem_range.1 hj
    exact comL_zero ((hd_area S j).trans (h j (by omega)))
  have hcw : ∀ j : Nat, (j : Int) < g.w → inAr g (264 + 208 * j) ∧ 264 + 208 * j < base.length := fun j hj => by
    have := (ov_words ho j hj).1
    exact ⟨⟨by omega, by omega⟩, by omega⟩
  have hown : ∀ x ∈ ownW (A : Int) (recL o), inAr g x.1.toNat ∧ (∀ j : Nat, x.1.toNat ≠ 264 + 208 * j) := fun x hx => by
    obtain ⟨i, hi, rfl⟩ := own_mem hx
    rw [hrl] at hi
    refine ⟨⟨by dsimp only; omega, by dsimp only; omega⟩, fun j => by dsimp only; omega⟩
  have hrun : ∀ k, wrote (runW (A : Int) o) (fnL base) k = if k = A then 0 else wrote o (wrote [((A : Int), markV (recL o))] (wrote (ownW (A : Int) (recL o)) (fnL base))) k := fun k => by
    unfold runW
    rw [wrote_append, wrote_append, wrote_append]
    show (if k = ((A : Int)).toNat then _ else _) = _
    rw [show ((A : Int)).toNat = A by omega]
  have hc0 := hcom0 (putsL base (runW (A : Int) o)) (hlen _) (fun j hj => by
    obtain ⟨h1, h2⟩ := hcw j hj
    rw [putsL_fn _ _ _ h2, hrun]
    by_cases e2 : 264 + 208 * j = A
    · rw [if_pos e2]
    · rw [if_neg e2, wrote_out _ _ (264 + 208 * j) (fun x hx e => hout x hx (e ▸ h1)), wrote_out _ _ (264 + 208 * j) (fun x hx e => by
        rw [List.mem_singleton.1 hx] at e
        dsimp only at e
        omega), wrote_out _ _ (264 + 208 * j) (fun x hx => (hown x hx).2 j)]
      exact hz _ h1)
  have hoS : ovOk g (putsL base (runW (A : Int) o)).length := by rw [hlen]; exact ho
  refine list_eq (by rw [overL_len' hoS, hlen, hlen]) fun k hk => ?_
  rw [overL_len' hoS, hlen] at hk
  rw [overL_fn hoS k (by rw [hlen]; exact hk), putsL_fn _ _ _ hk, hc0]
  by_cases ha : inAr g k
  · rw [if_pos ha, wrote_out _ _ k (fun x hx e => hout x hx (e ▸ ha)), hz k ha]
  · rw [if_neg ha]
    show fnL (putsL base (runW (A : Int) o)) k = _
    rw [putsL_fn _ _ _ hk, hrun, if_neg (fun e => ha (by subst e; exact ⟨by omega, by omega⟩))]
    refine wrote_congr o _ _ k ?_
    rw [wrote_out _ _ k (fun x hx e => ha (by
        rw [List.mem_singleton.1 hx] at e
        dsimp only at e
        subst e
        exact ⟨by omega, by omega⟩)), wrote_out _ _ k fun x hx e => ha (e ▸ (hown x hx).1)]
/-- THE PREFIXES: Over of what is seen is all, or none. -/
theorem quiet_over {g : G} {base : List Int} {o : List Wr} {m : Nat} (ho : ovOk g base.length) (hz : ∀ k, inAr g k → fnL base k = 0) (hm : (m : Int) < g.w) (hmay : mayW g o = true) (hok : okW o) (hout : ∀ x ∈ o, ¬ inAr g x.1.toNat)
    (i : Nat) : overL g (putsL base ((runW (264 + 208 * (m : Int)) o).take i)) = base ∨ overL g (putsL base ((runW (264 + 208 * (m : Int)) o).take i)) = putsL base o := by
  obtain ⟨hwm, hww⟩ := ho
  have ho : ovOk g base.length := ⟨hwm, hww⟩
  have hw1 : 1 ≤ g.w ∧ g.w ≤ 4 := ⟨hwm.1, hwm.2.1⟩
  have hn := (may_small hmay).1
  have hmk := (mark_rec hn hok (may_neg hmay) []).2
  have hrl := recL_len o
  obtain ⟨A, hA⟩ : ∃ A : Nat, A = 264 + 208 * m := ⟨_, rfl⟩
  have hAi : (264 + 208 * (m : Int)) = (A : Int) := by omega
  rw [hAi]
  have hAend := (ov_words ho m hm).1
  -- of a list of writes: what is seen of words
  have hlen : ∀ P, (putsL base P).length = base.length := fun P => putsL_len base P
  -- the areas' commit words
  have hcom0 : ∀ (S : List Int), S.length = base.length → (∀ j : Nat, (j : Int) < g.w → fnL S (264 + 208 * j) = 0) → comAll g S = [] := fun S hS h => by
    unfold comAll
    rw [List.flatMap_eq_nil_iff]
    intro j hj
    have hj := List.mem_range.1 hj
    exact comL_zero ((hd_area S j).trans (h j (by omega)))
  have hcw : ∀ j : Nat, (j : Int) < g.w → inAr g (264 + 208 * j) ∧ 264 + 208 * j < base.length := fun j hj => by
    have := (ov_words ho j hj).1
    exact ⟨⟨by omega, by omega⟩, by omega⟩
  have hown : ∀ x ∈ ownW (A : Int) (recL o), inAr g x.1.toNat ∧ (∀ j : Nat, x.1.toNat ≠ 264 + 208 * j) := fun x hx => by
    obtain ⟨i, hi, rfl⟩ := own_mem hx
    rw [hrl] at hi
    refine ⟨⟨by dsimp only; omega, by dsimp only; omega⟩, fun j => by dsimp only; omega⟩
  rcases runW_take (A : Int) o i with ⟨j, e⟩ | ⟨j, e⟩ | e
  · -- no mark: none
    left
    rw [e]
    have hin : ∀ x ∈ (ownW (A : Int) (recL o)).take j, inAr g x.1.toNat ∧ (∀ j : Nat, x.1.toNat ≠ 264 + 208 * j) := fun x hx => hown x (List.mem_of_mem_take hx)
    generalize (ownW (A : Int) (recL o)).take j = P at hin
    refine list_eq (by rw [overL_len' (by rw [hlen]; exact ho), hlen]) fun k hk => ?_
    rw [overL_len' (by rw [hlen]; exact ho), hlen] at hk
    rw [overL_fn (by rw [hlen]; exact ho) k (by rw [hlen]; exact hk)]
    by_cases ha : inAr g k
    · rw [if_pos ha, hz k ha]
    · rw [if_neg ha, hcom0 _ (hlen P) (fun j hj => by
        obtain ⟨h1, h2⟩ := hcw j hj
        rw [putsL_fn _ _ _ h2, wrote_out _ _ _ fun x hx => (hin x hx).2 j]
        exact hz _ h1)]
      show fnL (putsL base P) k = _
      rw [putsL_fn _ _ _ hk, wrote_out _ _ k fun x hx e => ha (e ▸ (hin x hx).1)]
  · -- the mark stands: all
    right
    rw [e]
    obtain ⟨S, hS⟩ : ∃ S, putsL base (ownW (A : Int) (recL o) ++ [((A : Int), markV (recL o))] ++ o.take j) = S := ⟨_, rfl⟩
    have hSl : S.length = base.length := by rw [← hS]; exact hlen _
    have hSf : ∀ k, k < base.length → fnL S k = wrote (o.take j) (wrote [((A : Int), markV (recL o))] (wrote (ownW (A : Int) (recL o)) (fnL base))) k := fun k hk => by
      rw [← hS, putsL_fn _ _ _ hk, wrote_append, wrote_append]
    have hoj : ∀ x ∈ o.take j, ¬ inAr g x.1.toNat := fun x hx => hout x (List.mem_of_mem_take hx)
    -- in the areas the writes themselves turn nothing
    have hSa : ∀ k, k < base.length → inAr g k → fnL S k = if k = A then markV (recL o) else wrote (ownW (A : Int) (recL o)) (fnL base) k := fun k hk ha => by
      rw [hSf k hk, wrote_out _ _ k fun x hx e => hoj x hx (e ▸ ha)]
      show (if k = ((A : Int)).toNat then _ else _) = _
      rw [show ((A : Int)).toNat = A by omega]
    have hAr : ∀ q, q < 208 → (areaL S m)[q]?.getD 0 = fnL S (A + q) := fun q hq => by
      unfold areaL fnL
      rw [List.getElem?_take_of_lt hq, List.getElem?_drop, hA]
    have hAl : (areaL S m).length = 208 := areaL_len S m (by rw [hSl]; omega)
    have hcm : comL g (areaL S m) = o := by
      refine com_rec (z := ((areaL S m).drop 8).drop (recL o).length) hmay hok ?_ ?_
      · refine list_eq (by rw [List.length_append, List.length_drop, List.length_drop, hAl, List.length_drop, hAl, hrl]; omega) fun q hq => ?_
        rw [List.length_drop, hAl] at hq
        by_cases hqr : q < (recL o).length
        · unfold fnL
          rw [List.getElem?_append_left hqr, List.getElem?_drop, hAr _ (by omega), hSa _ (by omega) ⟨by omega, by omega⟩, if_neg (by omega), ← Nat.add_assoc, own_at A (recL o) (fnL base) q hqr]
        · unfold fnL
          rw [List.getElem?_append_right (by omega), List.getElem?_drop, List.getElem?_drop, List.getElem?_drop]
          congr 2
          omega
      · rw [hd_area, ← hA]
        have := hSa A (by omega) ⟨by omega, by omega⟩
        rw [if_pos rfl] at this
        exact this
    have hcall : comAll g S = o := by
      unfold comAll
      have hsplit : List.range g.w.toNat = List.range m ++ [m] ++ (List.range (g.w.toNat - (m + 1))).map (fun q => m + 1 + q) := by
        rw [← List.range_succ, ← List.range_add]
        congr 1; omega
      have hno : ∀ q : Nat, (q : Int) < g.w → q ≠ m → comL g (areaL S q) = [] := fun q hq hne => by
        obtain ⟨h1, h2⟩ := hcw q hq
        refine comL_zero ((hd_area S q).trans ?_)
        have := hSa (264 + 208 * q) h2 h1
        rw [if_neg (by omega), wrote_out _ _ _ fun x hx => (hown x hx).2 q, hz _ h1] at this
        exact this
      have e1 : ((List.range m).flatMap fun j => comL g (areaL S j)) = [] := List.flatMap_eq_nil_iff.2 (fun q hq => hno q (by have := List.mem_range.1 hq; omega) (by have := List.mem_range.1 hq; omega))
      have e3 : (((List.range (g.w.toNat - (m + 1))).map (fun q => m + 1 + q)).flatMap fun j => comL g (areaL S j)) = [] := List.flatMap_eq_nil_iff.2 (fun q hq => by
        obtain ⟨t, ht, rfl⟩ := List.mem_map.1 hq
        have := List.mem_range.1 ht
        exact hno _ (by omega) (by omega))
      rw [hsplit, List.flatMap_append, List.flatMap_append, e1, e3]
      simp only [List.flatMap_cons, List.flatMap_nil, List.append_nil, List.nil_append]
      exact hcm
    rw [hS]
    have hoS : ovOk g S.length := by rw [hSl]; exact ho
    refine list_eq (by rw [overL_len' hoS, hSl, hlen]) fun k hk => ?_
    rw [overL_len' hoS, hSl] at hk
    rw [overL_fn hoS k (by rw [hSl]; exact hk), putsL_fn _ _ _ hk, hcall]
    by_cases ha : inAr g k
    · rw [if_pos ha, wrote_out _ _ k (fun x hx e => hout x hx (e ▸ ha)), hz k ha]
    · rw [if_neg ha]
      have h3 : wrote [((A : Int), markV (recL o))] (wrote (ownW (A : Int) (recL o)) (fnL base)) k = fnL base k := by
        rw [wrote_out _ _ k (fun x hx e => ha (by
          rw [List.mem_singleton.1 hx] at e
          dsimp only at e
          subst e
          exact ⟨by omega, by omega⟩)), wrote_out _ _ k fun x hx e => ha (e ▸ (hown x hx).1)]
      rw [wrote_congr o _ _ k (hSf k hk), wrote_some]
      exact wrote_congr o _ _ k h3
  · -- all stores: all
    right
    rw [e, ← hAi]
    exact quiet_all ho hz hm hmay hok hout
end Go.Proofs.YtkopfnldgnkkoaaGreat

/-
  WRITES THAT ARE UNDER WAY: from steps to words; the law's does.
-/
namespace Go.Proofs.YtkopfnldgnkkoaaGreat
open Go.RowKit Go.Shelf
set_option linter.unusedVariables false

theorem stores_take (L : List St) (j : Nat) : ∃ i, ((L.take j).flatMap fun s => storeOf s.o) = (L.flatMap fun s => storeOf s.o).take i := by
  refine ⟨((L.take j).flatMap fun s => storeOf s.o).length, ?_⟩
  have e : (L.flatMap fun s => storeOf s.o) = ((L.take j).flatMap fun s => storeOf s.o) ++ ((L.drop j).flatMap fun s => storeOf s.o) := by
    rw [← List.flatMap_append, List.take_append_drop]
  rw [e, List.take_left]
theorem row_fn (p : Wd → Int) (f : Nat → Wd) (N k : Nat) (hk : k < N) : fnL (rowL p f N) k = p (f k) := by
  unfold fnL rowL
  rw [List.getElem?_map, List.getElem?_range hk]; rfl
theorem seen_row (base : List Int) (N : Nat) (hN : base.length = N) (L : List St) : rowL (·.seen) (doAll L (filD base)) N = putsL base (L.flatMap fun s => storeOf s.o) := by
  refine list_eq (by rw [rowL_length, putsL_len, hN]) fun k hk => ?_
  rw [rowL_length] at hk
  rw [row_fn _ _ _ _ hk, putsL_fn _ _ _ (by omega), doAll_seen]
  exact wrote_congr _ _ _ _ rfl
theorem filD_clean (base : List Int) (N : Nat) : Clean N (filD base) := fun k hk => ⟨rfl, rfl, rfl, rfl⟩
theorem sure_row {f : Nat → Wd} {N : Nat} (h : Clean N f) : rowL (·.sure) f N = rowL (·.seen) f N := by
  refine list_eq (by rw [rowL_length, rowL_length]) fun k hk => ?_
  rw [rowL_length] at hk
  rw [row_fn _ _ _ _ hk, row_fn _ _ _ _ hk]
  exact (h k hk).s
theorem run_stores (area : Int) (o : List Wr) : ((beginL area o).flatMap fun s => storeOf s.o) = runW area o := begin_stores area o
/-- What is sure when all is done. -/
theorem run_area {base : List Int} {o : List Wr} (A : Nat) (hA : A < base.length) : fnL (putsL base (runW (A : Int) o)) A = 0 := by
  rw [putsL_fn _ _ _ hA]
  unfold runW
  rw [wrote_append, wrote_append, wrote_append]
  exact if_pos (by simp)
theorem run_else {base : List Int} {o : List Wr} (A k : Nat) (hn : o.length ≤ 96) (hk : k < base.length) (hA : k < A ∨ A + 208 ≤ k) : fnL (putsL base (runW (A : Int) o)) k = fnL (putsL base o) k := by
  rw [putsL_fn _ _ _ hk, putsL_fn _ _ _ hk]
  unfold runW
  rw [wrote_append, wrote_append, wrote_append]
  rw [wrote_out [((A : Int), 0)] _ k (fun x hx => by rw [List.mem_singleton.1 hx]; dsimp only; omega)]
  refine wrote_congr _ _ _ _ ?_
  rw [wrote_out [((A : Int), markV (recL o))] _ k (fun x hx => by rw [List.mem_singleton.1 hx]; dsimp only; omega)]
  refine wrote_out _ _ _ fun x hx => ?_
  obtain ⟨i, hi, rfl⟩ := own_mem hx
  rw [recL_len] at hi
  dsimp only
  omega
theorem fmtL_area {g : G} (hm : mayP g) (k : Nat) (hk : inAr g k) : fnL (fmtL g) k = 0 := by
  obtain ⟨g1, g2, g3, g4, g5, g6⟩ := hm
  obtain ⟨k1, k2⟩ := hk
  unfold fnL fmtL
  rw [List.getElem?_set_ne (by omega), List.getElem?_set_ne (by omega), List.getElem?_set_ne (by omega), List.getElem?_set_ne (by omega), List.getElem?_set_ne (by omega), List.getElem?_set_ne (by omega), List.getElem?_set_ne (by omega), List.getElem?_set_ne (by omega), List.getElem?_replicate]
  by_cases h : k < (atN g 7).toNat
  · rw [if_pos h]; rfl
  · rw [if_neg h]; rfl
theorem cntL_mono {p q : Nat → Bool} (h : ∀ z, p z = true → q z = true) : ∀ M, cntL p M ≤ cntL q M
  | 0 => Nat.le_refl _
  | M + 1 => by
    rw [cntL_succ, cntL_succ]
    have := cntL_mono h M
    by_cases e : p M = true
    · rw [if_pos e, if_pos (h M e)]; omega
    · rw [if_neg e]; split <;> omega
/-- Writes into two blocks have two lines at most. -/
theorem lines_two {b : Nat} {o : List Wr} (h : ∀ x ∈ o, 8 * (b : Int) ≤ x.1 ∧ x.1 < 8 * (b : Int) + 16) : (linesOf (lineL o)).length ≤ 2 := by
  rw [lines_len]
  refine Nat.le_trans (cntL_mono (q := fun z => decide (b ≤ z ∧ z < b + 2)) (fun z hz => ?_) _) ?_
  · rw [decide_eq_true_eq] at hz ⊢
    obtain ⟨x, hx, e⟩ := List.mem_map.1 hz
    have := h x hx
    omega
  · rw [cntL_iv _ b 2 (fun z => by rw [decide_eq_true_eq])]; omega
theorem want_sum (n m : Nat) : (wantL n m).sum = 0 + (2 + 2 * n) + ((2 + 2 * n + 7) / 8 + 1) + 3 + n + (m + 1) + 3 := by simp [wantL]; omega

theorem mark_u64 {o : List Wr} (hn : o.length ≤ 96) (hok : okW o) (hg : neg o = false) : u64 (markV (recL o)) := by
  have hs : u64 (sumOf (bodyL o)) := rec_u64 hn hok hg _ (by unfold recL; simp)
  have h2 := (Has.of_rec hn []).mark hs
  rw [List.append_nil] at h2
  rw [h2]
  generalize sumOf (bodyL o) = s
  unfold u64
  omega
theorem runW_u64 {g : G} {o : List Wr} (hm : mayW g o = true) (hok : okW o) (area : Int) : ∀ x ∈ runW area o, u64 x.2 := by
  have hn := (may_small hm).1
  have hg := may_neg hm
  intro x hx
  unfold runW at hx
  rcases List.mem_append.1 hx with hx | hx
  · rcases List.mem_append.1 hx with hx | hx
    · obtain ⟨i, hi, rfl⟩ := own_mem hx
      dsimp only
      rw [List.getElem?_eq_getElem hi]
      exact rec_u64 hn hok hg _ (List.getElem_mem hi)
    · rw [List.mem_singleton.1 hx]; exact mark_u64 hn hok hg
  · rcases List.mem_append.1 hx with hx | hx
    · exact (hok x hx).2
    · rw [List.mem_singleton.1 hx]; unfold u64; dsimp only; omega

/-- What does tells. -/
def DoesR (zs : List Int) (w : World) (e : Ending) (w' : World) : Prop :=
  ∃ b c, e = .returned (.slice (some ⟨b, 0, none⟩) zs.length c) ∧ zs.length ≤ c ∧ OutAt w' b zs ∧ Nw w w' ∧ w.heap.size ≤ b
set_option maxRecDepth 100000 in
set_option maxHeartbeats 4000000 in
theorem does_any (a : Option Addr) (N c n₀ : Nat) (zs : List Int) (hx : zs.length = N) (h0 : 0 < N) (hN : N ≤ 1000000) (la : Option Addr) (n lc m₀ : Nat) (o : List Wr) (ho : o.length = n) (hn : n ≤ 1000000) (hin : ∀ x ∈ o, 0 ≤ x.1 ∧ x.1 < (N : Int)) (w : World) (hn₀ : n₀ ≤ w.heap.size) (hI : Ints n₀ .u64 w a zs) (hm₀ : m₀ ≤ w.heap.size) (hP : Pairs .i64 .u64 m₀ w la o) :
    Calls Tryz.prog 37 #[.slice a N c, .slice la n lc] w (DoesR (putsL zs o) w) := by
  obtain ⟨i0, hi, hz0, hz1, hz2⟩ := info_parts8 info_u64
  have HX := Lib.hid hx
  have HII := Lib.hid (hI.mono hn₀)
  have HPP := Lib.hid (hP.mono hm₀)
  have HON := Lib.hid ho
  have HIN := Lib.hid hin
  clear hI hP hx ho hin
  go_enter Tryz.func37, Tryz.ntmps37
  go_upto_region 2 with (at_builtin; refine wpList_append_ints _ rfl _ _ 33 rfl w.heap.size 44 i0 (.int .u64 0) 8 Tryz.underlying33 hi hz0 hz1 hz2 rfl _ 0 [] rfl (World.ownsRow_made _ #[] 0 (Nat.le_refl _) (Nat.zero_le _) (by simp)) a N c .u64 zs w.heap.size rfl HX.out (HII.out.below ((Below.refl _ _).alloc (Nat.le_refl _) _)) (by unfold maxLen; omega) (by omega) (by simp) ?_; intro v5 W hown hgrow; have hb5 : Below w.heap.size w W := ((Below.refl _ w).alloc (Nat.le_refl _) _).grown hgrow (by simp) (fun k e => by cases e; exact Nat.le_refl _); clear hgrow; simp only [Nat.zero_add, List.nil_append] at hown)
  have hou : OwnU w zs (.returned v5) W := ⟨v5, rfl, by rw [HX.out]; exact hown, ⟨hb5⟩⟩
  obtain ⟨b, oc, he, hO, hnw, hoc, hbw⟩ := hou.out (by rw [HX.out]; exact h0)
  rw [HX.out] at he hoc
  obtain rfl : v5 = .slice (some ⟨b, 0, none⟩) N oc := by simpa using he
  have HO := Lib.hid hO
  have HNW := Lib.hid hnw
  have HBW := Lib.hid hbw
  clear hown hb5 hou he hO hnw hbw hi hz0 hz1 hz2 HII
  go_wp2_with fail
  go_loopw [6] (fun i wq => ∃ k : Nat, k ≤ n ∧ i = .int .i64 k ∧ OutAt wq b (putsL zs (o.take k)) ∧ Up b W wq) (fun i _ => n - (intOf i).toNat)
  case atStart => exact ⟨0, Nat.zero_le _, rfl, HO.out, Up.refl _ _⟩
  case round =>
    clear HO
    obtain ⟨k, hk, rfl, hO, hU⟩ := hrel
    have HO := Lib.hid hO
    have HU := Lib.hid hU
    clear hO hU
    by_cases hkn : k < n
    · have hko : k < o.length := by rw [HON.out]; exact hkn
      obtain ⟨pb, po, rfl, f1, f2⟩ := Pairs.at (pairs_upo HPP.out (O := fun _ => False) (.of_nw HNW.out) (fun _ _ h => h)) hko
      have hpb : pb ≠ b := by
        rcases HPP.out with h | ⟨b', o', e, hb', _⟩
        · rw [h] at hko; simp at hko
        · cases e
          have := HBW.out
          omega
      have p1 := HU.out.cell f1 hpb
      have p2 := HU.out.cell f2 hpb
      have HPT := Lib.hid (putsL_take (zs := zs) hko)
      have hx := HIN.out _ (List.getElem_mem hko)
      obtain ⟨x, hxe⟩ : ∃ x, o[k] = x := ⟨_, rfl⟩
      rw [hxe] at p1 p2 HPT hx
      obtain ⟨x1, x2⟩ := x
      dsimp only at p1 p2 HPT hx
      obtain ⟨q, hq⟩ : ∃ q : Nat, (q : Int) = x1 := ⟨x1.toNat, by omega⟩
      subst hq
      have hqi : (q : Int) < (N : Int) := by omega
      have hq0 : 0 ≤ (q : Int) := by omega
      have hcq : wr.cell? ⟨b, q, none⟩ = some (.int .u64 ((putsL zs (o.take k))[q]?.getD 0)) := HO.out.at_ q (by rw [putsL_len, HX.out]; omega)
      have hfr : wr.frozen? ⟨b, q, none⟩ = false := HO.out.ty.frozen q
      have HS := Lib.hid ((HO.out.set q x2).nw Nw.refl.drew)
      have HUd := Lib.hid ((HU.out.set q (.int .u64 x2)).nw Nw.refl.drew)
      have E1 := Lib.hid (show (wr.setCell ⟨b, q, none⟩ (.int .u64 x2)).cell? ⟨pb, po + k * 2, none⟩ = some (.int .i64 q) by rw [cell_far _ _ _ _ _ hpb]; exact p1)
      have E2 := Lib.hid (show (wr.setCell ⟨b, q, none⟩ (.int .u64 x2)).cell? ⟨pb, po + k * 2 + 1, none⟩ = some (.int .u64 x2) by rw [cell_far _ _ _ _ _ hpb]; exact p2)
      have hjn : (k : Int) < (n : Int) := by omega
      have hj0 : (0 : Int) ≤ (k : Int) := by omega
      generalize (putsL zs (o.take k))[q]?.getD 0 = y at hcq
      clear f1 f2 hxe hx
      go_wp2_with fail
      go_region_held3 (fun w' => w'.cell? ⟨pb, po + k * 2, none⟩ = some (.int .i64 q) ∧ w'.cell? ⟨pb, po + k * 2 + 1, none⟩ = some (.int .u64 x2))
        (first | (exact ⟨p1, p2⟩) | (exact ⟨E1.out, E2.out⟩))
        (fail)
      generalize (wr.setCell ⟨b, q, none⟩ (.int .u64 x2)).drew = w7 at *
      clear hcq hfr p1 p2 hpb hqi hq0 hjn hj0
      go_wp2_with fail
      go_roundw
      case rel => exact ⟨k + 1, by omega, by go_num, by rw [HPT.out]; exact HS.out, HUd.out⟩
      case measure => simp [intOf]; omega
    · obtain rfl : k = n := by omega
      rw [List.take_of_length_le (by rw [HON.out]; exact Nat.le_refl _)] at HO
      go_wp2_with fail
      go_ret
      exact ⟨b, oc, by rw [putsL_len, HX.out]; rfl, by rw [putsL_len, HX.out]; exact hoc, HO.out, ⟨Up.below HNW.out.b HU.out HNW.out.b.size HBW.out⟩, HBW.out⟩
end Go.Proofs.YtkopfnldgnkkoaaGreat
