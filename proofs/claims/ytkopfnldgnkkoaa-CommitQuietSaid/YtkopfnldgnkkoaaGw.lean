/-
  THE LAW'S WRITES of a worker, in blocks of its own, each word once.
-/
import Derived.Test.YtkopfnldgnkkoaaGd
namespace Go.Proofs.Ytkopfnldgnkkoaa
open Go.RowKit Go.Shelf
set_option linter.unusedVariables false

def wrAt (b : Int) (x : Pu) : Int := b + ((x.q % 16 : Nat) : Int)
def wrStep (b : Int) (o : List Wr) (x : Pu) : List Wr := if (o.any fun y => y.1 == wrAt b x) = true then o else o ++ [(wrAt b x, x.v)]
def wrL (b : Int) (l : List Pu) : List Wr := l.foldl (wrStep b) []
theorem wrL_succ {b : Int} {l : List Pu} {k : Nat} (h : k < l.length) : wrL b (l.take (k + 1)) = wrStep b (wrL b (l.take k)) l[k] := by
  unfold wrL
  rw [List.take_succ_eq_append_getElem h, List.foldl_append]; rfl
theorem wrStep_len (b : Int) (o : List Wr) (x : Pu) : (wrStep b o x).length ≤ o.length + 1 := by
  unfold wrStep; split
  · omega
  · simp
theorem wrL_len (b : Int) (l : List Pu) : (wrL b l).length ≤ l.length := by
  have : ∀ (l : List Pu) (o : List Wr), (l.foldl (wrStep b) o).length ≤ o.length + l.length := by
    intro l
    induction l with
    | nil => intro o; simp
    | cons x l ih => intro o; rw [List.foldl_cons, List.length_cons]; have := ih (wrStep b o x); have := wrStep_len b o x; omega
  simpa [wrL] using this l []
theorem any_take {α : Type} (p : α → Bool) (o : List α) {j : Nat} (h : j < o.length) : (o.take (j + 1)).any p = ((o.take j).any p || p o[j]) := by
  rw [List.take_succ_eq_append_getElem h, List.any_append]; simp only [List.any_cons, List.any_nil, Bool.or_false]
/-- What it tells. -/
def WritesR (l : List Wr) (w : World) (e : Ending) (w' : World) : Prop :=
  ∃ a c, e = .returned (.slice a l.length c) ∧ l.length ≤ c ∧ Pairs .i64 .u64 w'.heap.size w' a l ∧ Nw w w' ∧ (∀ p, a = some p → w.heap.size ≤ p.block) ∧ Shp a l.length c
set_option maxRecDepth 100000 in
set_option maxHeartbeats 8000000 in
theorem writes_any (g : G) (k : Nat) (hm : mayP g) (hk : 1 + 2 * (k : Int) ≤ g.b - 1) (al : Option Addr) (len cap n₀ : Nat) (l : List Pu) (hl : l.length = len) (hlm : len ≤ 1000) (w : World) (hn₀ : n₀ ≤ w.heap.size) (hI : Recs puC 2 n₀ w al l) (hq : ∀ x ∈ l, puOk x) :
    Calls Try.prog 11 #[gV g, .int .i64 k, .slice al len cap] w (WritesR (wrL (atN g 6 + 8 * (1 + 2 * (k : Int))) l) w) := by
  obtain ⟨i0, hi, hz0, hz1, hz2⟩ := info_parts8 info_wr
  have hpl : placeV g 6 (1 + 2 * (k : Int)) = atN g 6 + 8 * (1 + 2 * (k : Int)) := by
    have : placeV g 6 (1 + 2 * (k : Int)) = atN g 6 + sizeN 6 * (1 + 2 * (k : Int)) := if_pos ⟨hm, by omega, by simp only [manyN]; omega⟩
    rw [this]; simp only [sizeN]
  have hkk : (k : Int) ≤ 255 := by have := hm.2.2.2.2.2; omega
  obtain ⟨B, hB⟩ : ∃ B : Nat, (B : Int) = atN g 6 + 8 * (1 + 2 * (k : Int)) := ⟨(atN g 6 + 8 * (1 + 2 * (k : Int))).toNat, by have := (at_bd hm 6).1; omega⟩
  have hBB : (B : Int) ≤ 100000 := by have := (at_bd hm 6).2; omega
  have HBA : Hid (∀ W, Calls Try.prog 19 #[.agg #[.int .i64 g.w, .int .i64 g.i, .int .i64 g.b], .int .i64 (1 + 2 * (k : Int))] W fun e w' => e = .returned (.int .i64 B) ∧ At W w') := fun W => by
    have := block_at g (1 + 2 * (k : Int)) (w0 := W) (w := W) At.refl
    rw [hpl, ← hB] at this
    exact this
  rw [← hB]
  clear hpl hB hm hk
  have hb0 := Blk.new w #[.int .i64 g.w, .int .i64 g.i, .int .i64 g.b] 25
  have hn0 := (Nw.refl (w := w)).alloc (.cells #[.int .i64 g.w, .int .i64 g.i, .int .i64 g.b] 25)
  have HIW := Lib.hid (Recs.below (hn0.b.mono hn₀) hI)
  have HN0 := Lib.hid hn₀
  have HQ := Lib.hid hq
  have HL := Lib.hid hl
  clear hI hq hl hn₀
  unfold gV
  go_enter Try.func11, Try.ntmps11
  go_upto_region 1 with fail
  generalize w.alloc (.cells #[.int .i64 g.w, .int .i64 g.i, .int .i64 g.b] 25) = w1 at *
  generalize hbx : w.heap.size = bx at hb0
  have HBX := Lib.hid hbx
  have HB := Lib.hid hb0
  have HN1 := Lib.hid hn0
  clear hb0 hn0 hbx
  go_wp2_with fail
  go_loopw [8, 7] (fun i v wq => ∃ (j : Nat) (o : List Wr), j ≤ len ∧ i = .int .i64 j ∧ o = wrL B (l.take j) ∧ Nw w1 wq ∧ wq.ownsRow w1.heap.size 41 2 v o.length (prC o)) (fun i _ _ => len - (intOf i).toNat)
  case atStart => exact ⟨0, [], Nat.zero_le _, rfl, rfl, Nw.refl, rfl, .inl ⟨rfl, rfl⟩⟩
  case round =>
    obtain ⟨j, o, hj, rfl, ho, hn, how⟩ := hrel
    have HO := Lib.hid ho
    have HN := Lib.hid hn
    obtain ⟨va, vc, rfl, hvc, hP⟩ := Pairs.of_owns how
    have HOW := Lib.hid how
    have HP := Lib.hid hP
    have hom : o.length ≤ j := by rw [ho]; exact Nat.le_trans (wrL_len _ _) (by rw [List.length_take]; omega)
    obtain ⟨m, hmm⟩ : ∃ m, o.length = m := ⟨_, rfl⟩
    have HML := Lib.hid hmm
    rw [hmm] at hom hvc HOW
    clear ho hn how hP
    simp only [hmm]
    clear hmm
    by_cases hjl : j < len
    · have hjL : j < l.length := by rw [HL.out]; exact hjl
      have HST := Lib.hid (wrL_succ (b := B) hjL)
      obtain ⟨pb, po, rfl, hpb, p1, p2⟩ := pus_at HIW.out hjL
      have hpb1 : pb < w1.heap.size := (cell_lt p1).1
      have p1' : wr.cell? ⟨pb, po + j * 2, none⟩ = some (.int .u8 l[j].q) := (HN.out.b.cell (p := ⟨pb, _, none⟩) hpb1).trans p1
      have p2' : wr.cell? ⟨pb, po + j * 2 + 1, none⟩ = some (.int .u64 l[j].v) := (HN.out.b.cell (p := ⟨pb, _, none⟩) hpb1).trans p2
      have hx := HQ.out _ (List.getElem_mem hjL)
      obtain ⟨x, hxe⟩ : ∃ x, l[j] = x := ⟨_, rfl⟩
      rw [hxe] at p1' p2' hx HST
      obtain ⟨x1, x2⟩ := x
      obtain ⟨hx1, hx2⟩ := hx
      dsimp only at p1' p2' hx1 hx2
      obtain ⟨s, hs⟩ : ∃ s, s = x1 % 16 := ⟨_, rfl⟩
      obtain ⟨A, hA⟩ : ∃ A : Nat, A = B + s := ⟨_, rfl⟩
      have HWA := Lib.hid (show wrAt B ⟨x1, x2⟩ = (A : Int) by unfold wrAt; dsimp only; omega)
      have HH := Lib.hid (And.intro (show (x1 : Int).tmod 16 = (s : Int) by rw [Int.tmod_eq_emod_of_nonneg (by omega)]; omega) (And.intro (show IntKind.i64.wrap (s : Int) = (s : Int) from IntWalk.i64_in _ (by omega)) (And.intro (show IntKind.i64.wrap ((B : Int) + (s : Int)) = (A : Int) by rw [show (B : Int) + (s : Int) = (A : Int) by omega]; exact IntWalk.i64_in _ (by omega))
        (And.intro (show IntKind.i64.wrap (2 * (k : Int)) = 2 * (k : Int) from IntWalk.i64_in _ (by omega)) (show IntKind.i64.wrap (1 + 2 * (k : Int)) = 1 + 2 * (k : Int) from IntWalk.i64_in _ (by omega))))))
      have hA2 : (A : Int) ≤ 200000 := by omega
      clear p1 p2 hxe hx2 hpb hs hA
      have c0 : wr.cell? ⟨bx, 0, none⟩ = some (.int .i64 g.w) := (HB.out.nw HN.out).cell rfl
      have c1 : wr.cell? ⟨bx, 1, none⟩ = some (.int .i64 g.i) := (HB.out.nw HN.out).cell rfl
      have c2 : wr.cell? ⟨bx, 2, none⟩ = some (.int .i64 g.b) := (HB.out.nw HN.out).cell rfl
      have HK9 : Hid (∀ W, Nw wr W → W.cell? ⟨bx, 0, none⟩ = some (.int .i64 g.w) ∧ W.cell? ⟨bx, 1, none⟩ = some (.int .i64 g.i) ∧ W.cell? ⟨bx, 2, none⟩ = some (.int .i64 g.b) ∧ W.cell? ⟨pb, po + j * 2, none⟩ = some (.int .u8 x1)) :=
        fun W q => ⟨((HB.out.nw HN.out).nw q).cell rfl, ((HB.out.nw HN.out).nw q).cell rfl, ((HB.out.nw HN.out).nw q).cell rfl, (q.b.cell (p := ⟨pb, _, none⟩) (cell_lt p1').1).trans p1'⟩
      have HP2 := Lib.hid p2'
      have hj0 : (j : Int) < (len : Int) := by omega
      have hjn : (0 : Int) ≤ (j : Int) := by omega
      clear p2'
      go_wp2_with fail
      obtain ⟨e1, e2, e3, e4, e5⟩ := HH.out
      go_region_held3 (fun w' => w'.cell? ⟨bx, 0, none⟩ = some (.int .i64 g.w) ∧ w'.cell? ⟨bx, 1, none⟩ = some (.int .i64 g.i) ∧ w'.cell? ⟨bx, 2, none⟩ = some (.int .i64 g.b) ∧ w'.cell? ⟨pb, po + j * 2, none⟩ = some (.int .u8 x1))
        (first | (exact HK9.out _ Nw.refl.drew) | (exact HK9.out _ hk9))
        ((first
          | (go_at_call 19; (with_reducible refine (HBA.out _).mono ?_); rintro e w6 ⟨rfl, h6⟩; have hk9 := (Nw.refl (w := wr)).drew.trans h6.nw)))
      have HN6 := Lib.hid (HN.out.trans hk9)
      have HOW6 := Lib.hid (own_below hk9.b HOW.out)
      have HP6 := Lib.hid (show Pairs .i64 .u64 w6.heap.size w6 va o from by
        obtain ⟨va', vc', he, _, h⟩ := Pairs.of_owns (w := w6) (v := .slice va m vc) (l := o) (by rw [HML.out]; exact HOW6.out)
        simp only [Value.slice.injEq] at he
        obtain ⟨rfl, _, _⟩ := he
        exact h)
      have HPP := Lib.hid (show w6.cell? ⟨pb, po + j * 2 + 1, none⟩ = some (.int .u64 x2) from (hk9.b.cell (p := ⟨pb, _, none⟩) (cell_lt HP2.out).1).trans HP2.out)
      clear c0 c1 c2 p1' HK9 HP2 HH HP HOW HN h6 hk9 e1 e2 e3 e4 e5
      go_wp2_with fail
      go_loopw [11, 10] (fun i t wq => ∃ q : Nat, q ≤ m ∧ i = .int .i64 q ∧ t = .bool ((o.take q).any fun y => y.1 == (A : Int)) ∧ wq = w6) (fun i _ _ => m - (intOf i).toNat)
      case atStart => exact ⟨0, Nat.zero_le _, rfl, rfl, rfl⟩
      case round =>
        obtain ⟨q, hq, rfl, rfl, rfl⟩ := hrel
        by_cases hqm : q < m
        · have hqo : q < o.length := by rw [HML.out]; exact hqm
          obtain ⟨ob, oo, rfl, f1, f2⟩ := Pairs.at HP6.out hqo
          have HAN := Lib.hid (any_take (fun y : Wr => y.1 == (A : Int)) o hqo)
          generalize o[q] = y at *
          obtain ⟨y1, y2⟩ := y
          dsimp only at f1 HAN
          have hq0 : (q : Int) < (m : Int) := by omega
          have hqn : (0 : Int) ≤ (q : Int) := by omega
          generalize (o.take q).any (fun y => y.1 == (A : Int)) = bb at *
          cases bb
          · go_wp2_with fail
            go_roundw
            case rel => exact ⟨q + 1, by omega, by go_num, by rw [HAN.out]; simp, trivial⟩
            case measure => simp [intOf]; omega
          · go_wp2_with fail
            go_roundw
            case rel => exact ⟨q + 1, by omega, by go_num, by rw [HAN.out]; rfl, trivial⟩
            case measure => simp [intOf]; omega
        · obtain rfl : q = m := by omega
          rw [List.take_of_length_le (by rw [HML.out]; exact Nat.le_refl _)]
          have p2 := HPP.out
          have hs6 := HN6.out.b.size
          cases hbb : (o.any fun y => y.1 == (A : Int))
          · have HAD := Lib.hid (show wrL B (l.take (j + 1)) = o ++ [((A : Int), x2)] by
              rw [HST.out, ← HO.out]; unfold wrStep; rw [HWA.out, if_neg (by rw [hbb]; simp)])
            clear hbb
            go_wp2_with (first | (at_builtin; go_loud (refine wpList_append_own _ rfl (.tmp 49) (.tmp 57) 36 rfl w1.heap.size 41 i0 (.agg #[.int .i64 0, .int .u64 0]) 2 16 Try.underlying36 hi hz0 hz1 hz2 rfl (by decide) _ q _ rfl (HOW6.out.alloc _) ⟨wr.heap.size, 0, none⟩ 1 1 [.int .i64 (A : Int), .int .u64 x2] rfl rfl (two_cells _ _ _ _) (by intro u hu; simp at hu; rcases hu with rfl | rfl <;> rfl) (by unfold maxLen; omega) (by omega) (by simp; omega) ?_); intro v3 w3 hown3 hgrow3 _; have hb3 : Below w1.heap.size w1 w3 := Below.grownRow (HN6.out.b.alloc hs6 _) hgrow3 (by simp; omega) (HOW6.out.alloc _) (Nat.le_refl _); clear hgrow3; rw [← prC_snoc o ((A : Int), x2)] at hown3; have HO3 := Lib.hid hown3; clear hown3) | fail)
            go_roundw
            case rel => exact ⟨j + 1, _, by omega, by go_num, rfl, ⟨hb3⟩, by rw [HAD.out, List.length_append, HML.out]; exact HO3.out⟩
            case measure => simp [intOf]; omega
          · have HAD := Lib.hid (show wrL B (l.take (j + 1)) = o by
              rw [HST.out, ← HO.out]; unfold wrStep; rw [HWA.out, if_pos hbb])
            clear hbb
            go_wp2_with fail
            go_roundw
            case rel => exact ⟨j + 1, _, by omega, by go_num, rfl, HN6.out, by rw [HAD.out, HML.out]; exact HOW6.out⟩
            case measure => simp [intOf]; omega
    · obtain rfl : j = len := by omega
      rw [List.take_of_length_le (by rw [HL.out]; exact Nat.le_refl _)] at HO
      go_wp2_with fail
      go_ret
      refine ⟨va, vc, by rw [← HO.out, HML.out]; rfl, by rw [← HO.out, HML.out]; exact hvc, by rw [← HO.out]; exact HP.out, HN1.out.trans HN.out, ?_, by rw [← HO.out, HML.out]; exact own_shp HOW.out⟩
      intro p hp
      exact Nat.le_trans HN1.out.b.size (own_fresh HOW.out p hp)
end Go.Proofs.Ytkopfnldgnkkoaa
