import Derived.Test.YtkopfnldgnkkoaaGreatCmI
import Derived.Test.YtkopfnldgnkkoaaGreatRdH
import Derived.Test.YtkopfnldgnkkoaaGreatSrB
import Derived.Test.YtkopfnldgnkkoaaGreatRcL


/-
  RUNS: the stores of some writes.
-/
namespace Go.Proofs.YtkopfnldgnkkoaaGreat
open Go.RowKit Go.Shelf
set_option linter.unusedVariables false

/-- The stores of writes. -/
def storeL (p : Int) (l : List Wr) : List St := l.map fun x => ⟨p, .store x.1 x.2⟩
theorem storeL_len (p : Int) (l : List Wr) : (storeL p l).length = l.length := by simp [storeL]
theorem storeL_take {p : Int} {l : List Wr} {k : Nat} (h : k < l.length) : storeL p (l.take (k + 1)) = storeL p (l.take k) ++ [⟨p, .store l[k].1 l[k].2⟩] := by
  unfold storeL
  rw [List.take_succ_eq_append_getElem h, List.map_append]; rfl

set_option maxRecDepth 100000 in
set_option maxHeartbeats 4000000 in
theorem stores_any (r d : Nat) (g : G) (area : Int) (L : List St) (a : Option Addr) (p : Int) (la : Option Addr) (n lc : Nat) (l : List Wr) (hl : l.length = n) (hL : L.length + n ≤ 100000) (w : World) (h : RunAt w r d g area L a)
    (hP : ∀ W', UpO (OwnR9 r a) w W' → Pairs .i64 .u64 W'.heap.size W' la l) :
    Calls Tryz.prog 95 #[.pointer (some ⟨r, 0, none⟩), .int .u8 p, .slice la n lc] w (fun e w' => (∃ u, e = .returned u) ∧ ∃ a', RunM w r d g area a (L ++ storeL p l) a' w') := by
  have HL := Lib.hid hl
  have HP := Lib.hid hP
  have hN0 := (Nw.refl (w := w)).alloc (.cells #[.pointer (some ⟨r, 0, none⟩)] 48)
  have HM := Lib.hid ((RunM.refl h).nw hN0)
  have hb := Blk.new w #[.pointer (some ⟨r, 0, none⟩)] 48
  clear h hl hP
  go_enter Tryz.func95, Tryz.ntmps95
  go_upto_region 1 with fail
  generalize w.alloc (.cells #[.pointer (some ⟨r, 0, none⟩)] 48) = w0 at *
  have HB := Lib.hid hb
  clear hb hN0
  generalize w.heap.size = bx at HB ⊢
  go_wp2_with fail
  go_loopw [10] (fun v wr => ∃ k : Nat, k ≤ n ∧ v = .int .i64 k ∧ Blk wr bx #[.pointer (some ⟨r, 0, none⟩)] 48 ∧ ∃ a', RunM w r d g area a (L ++ storeL p (l.take k)) a' wr) (fun v _ => n - (intOf v).toNat)
  case atStart => exact ⟨0, Nat.zero_le _, rfl, HB.out, a, by simpa [storeL] using HM.out⟩
  case round =>
    clear HB HM
    obtain ⟨k, hk, rfl, hb, a', hm⟩ := hrel
    have HB := Lib.hid hb
    have HM := Lib.hid hm
    clear hb hm
    by_cases hlt : k < n
    · obtain ⟨pb, po, rfl, p1, p2⟩ := Pairs.at (HP.out wr HM.out.u) (j := k) (by rw [HL.out]; exact hlt)
      have HST := Lib.hid (storeL_take (p := p) (l := l) (k := k) (by rw [HL.out]; exact hlt))
      obtain ⟨x1, hx1⟩ : ∃ x, (l[k]'(by rw [HL.out]; exact hlt)).1 = x := ⟨_, rfl⟩
      obtain ⟨x2, hx2⟩ : ∃ x, (l[k]'(by rw [HL.out]; exact hlt)).2 = x := ⟨_, rfl⟩
      rw [hx1] at p1 HST
      rw [hx2] at p2 HST
      clear hx1 hx2
      go_upto_region 4 with fail
      have hbw := Blk.new wr #[.int .i64 x1, .int .u64 x2] 91
      have hn := (Nw.refl (w := wr)).alloc (.cells #[.int .i64 x1, .int .u64 x2] 91)
      clear p1 p2
      generalize wr.alloc (.cells #[.int .i64 x1, .int .u64 x2] 91) = w2 at *
      generalize wr.heap.size = bw at hbw ⊢
      have HB2 := Lib.hid (HB.out.nw hn)
      have HM2 := Lib.hid (HM.out.nw hn)
      have hcb : w2.cell? ⟨bx, 0, none⟩ = some (.pointer (some ⟨r, 0, none⟩)) := HB2.out.cell rfl
      have HPU := Lib.hid (push_any r d g area (L ++ storeL p (l.take k)) a' (by rw [List.length_append, storeL_len, List.length_take]; omega) p (.store x1 x2) (.func (.func 112) #[] #[.pointer (some ⟨bx, 0, none⟩), .pointer (some ⟨bw, 0, none⟩)]) w2 HM2.out.rr ⟨bx, bw, rfl, HB2.out, hbw⟩)
      clear hbw hn HB HM
      go_wp2_with fail
      refine HPU.out.mono ?_
      rintro e w3 ⟨⟨u, rfl⟩, a3, hm3⟩
      have HB3 := Lib.hid (hm3.u.blk HB2.out (HM2.out.rr.not_own HB2.out.tag (by decide) (by decide)))
      have HM3 := Lib.hid (HM2.out.then hm3)
      clear hm3 hcb
      go_wp2_with fail
      go_roundw
      case rel => exact ⟨k + 1, by omega, by go_num, HB3.out, a3, by rw [HST.out, ← List.append_assoc]; exact HM3.out⟩
      case measure => simp [intOf]; omega
    · obtain rfl : k = n := by omega
      rw [List.take_of_length_le (by rw [HL.out]; exact Nat.le_refl _)] at HM
      go_wp2_with fail
      go_end0
      exact ⟨⟨_, rfl⟩, a', HM.out⟩

end Go.Proofs.YtkopfnldgnkkoaaGreat

/-
  RUNS: the flushes of the lines of some writes, and a fence.
-/
namespace Go.Proofs.YtkopfnldgnkkoaaGreat
open Go.RowKit Go.Shelf
set_option linter.unusedVariables false

theorem info_int : (Tryz.prog.info? 3).map (fun i => (i.zero, i.size, i.bytes)) = some (some (.int .i64 0), 1, 8) := by kernel_rfl
theorem own_upo {O : Nat → Prop} {W W' : World} {base n : Nat} {e : TypeId} {sz : Nat} {v : Value} {xs : List Value} (h : W.ownsRow base e sz v n xs) (k : UpO O W W') (hO : ∀ g, Tag W g e → ¬ O g) : W'.ownsRow base e sz v n xs := by
  refine ⟨h.1, ?_⟩
  rcases h.2 with h2 | ⟨g, cap, cur, hv, hg, hh, r⟩
  · exact .inl h2
  · exact .inr ⟨g, cap, cur, hv, hg, k.blk hh (hO g ⟨cur, hh⟩), r⟩
/-- What is of another kind than a row that grows stays. -/
theorem grown_blk {w w' : World} {base n : Nat} {v : Value} {e t : TypeId} {sz : Nat} {xs : List Value} {k : Nat} {cs : Array Value} (h : Blk w k cs t) (hg : w.grownBy w' v.ownBlock) (hown : w.ownsRow base e sz v n xs) (ht : t ≠ e) : Blk w' k cs t := by
  refine (hg.block k h.lt (fun ej => ?_)).trans h
  rcases hown.2 with ⟨rfl, _⟩ | ⟨g, cap, cur, rfl, hbg, hh, _⟩
  · simp [Value.ownBlock] at ej
  · obtain rfl : g = k := by simpa [Value.ownBlock] using ej.symm
    exact Tag.ne h.tag ⟨cur, hh⟩ ht rfl
/-- The lines of writes; the flushes of lines. -/
def lineL (l : List Wr) : List Int := l.map fun x => x.1 / 8
def flushL9 (p : Int) (zs : List Int) : List St := zs.map fun z => ⟨p, .flush z⟩
theorem flushL9_len (p : Int) (zs : List Int) : (flushL9 p zs).length = zs.length := by simp [flushL9]
theorem flushL9_take {p : Int} {zs : List Int} {k : Nat} (h : k < zs.length) : flushL9 p (zs.take (k + 1)) = flushL9 p (zs.take k) ++ [⟨p, .flush zs[k]⟩] := by
  unfold flushL9
  rw [List.take_succ_eq_append_getElem h, List.map_append]; rfl
def settleL (p : Int) (l : List Wr) : List St := flushL9 p (linesOf (lineL l)) ++ [⟨p, .fence⟩]
theorem lineL_take {l : List Wr} {k : Nat} (h : k < l.length) : lineL (l.take (k + 1)) = lineL (l.take k) ++ [l[k].1 / 8] := by
  unfold lineL
  rw [List.take_succ_eq_append_getElem h, List.map_append]; rfl
theorem lineL_len (l : List Wr) : (lineL l).length = l.length := by simp [lineL]

set_option maxRecDepth 100000 in
set_option maxHeartbeats 4000000 in
theorem settles_any (r d : Nat) (g : G) (area : Int) (L : List St) (a : Option Addr) (p : Int) (la : Option Addr) (n lc : Nat) (l : List Wr) (hl : l.length = n) (hL : L.length + n + 1 ≤ 100000) (hx : ∀ x ∈ l, 0 ≤ x.1 ∧ x.1 < 65536) (w : World) (h : RunAt w r d g area L a)
    (hP : ∀ W', UpO (OwnR9 r a) w W' → Pairs .i64 .u64 W'.heap.size W' la l) :
    Calls Tryz.prog 96 #[.pointer (some ⟨r, 0, none⟩), .int .u8 p, .slice la n lc] w (fun e w' => (∃ u, e = .returned u) ∧ ∃ a', RunM w r d g area a (L ++ settleL p l) a' w') := by
  obtain ⟨i0, hi, hz0, hz1, hz2⟩ := info_parts8 info_int
  have HL := Lib.hid hl
  have HP := Lib.hid hP
  have HX := Lib.hid hx
  have hN0 := (Nw.refl (w := w)).alloc (.cells #[.pointer (some ⟨r, 0, none⟩)] 48)
  have HR := Lib.hid h
  have hb := Blk.new w #[.pointer (some ⟨r, 0, none⟩)] 48
  clear h hl hP hx
  go_enter Tryz.func96, Tryz.ntmps96
  go_upto_region 1 with fail
  generalize w.alloc (.cells #[.pointer (some ⟨r, 0, none⟩)] 48) = w0 at *
  have HB := Lib.hid hb
  have HN0 := Lib.hid hN0
  clear hb hN0
  generalize hbx : w.heap.size = bx at HB ⊢
  have HBX := Lib.hid hbx
  clear hbx
  go_wp2_with fail
  go_loopw [13, 6] (fun i v wr => ∃ k : Nat, k ≤ n ∧ i = .int .i64 k ∧ Blk wr bx #[.pointer (some ⟨r, 0, none⟩)] 48 ∧ Nw w wr ∧ wr.ownsRow w.heap.size 3 1 v k ((lineL (l.take k)).map (.int .i64))) (fun i _ _ => n - (intOf i).toNat)
  case atStart => exact ⟨0, Nat.zero_le _, rfl, HB.out, HN0.out, rfl, .inl ⟨rfl, rfl⟩⟩
  case round =>
    clear HB HN0
    obtain ⟨k, hk, rfl, hb, hn, how⟩ := hrel
    by_cases hlt : k < n
    · obtain ⟨pb, po, rfl, p1, p2⟩ := Pairs.at (HP.out wr (.of_nw hn)) (j := k) (by rw [HL.out]; exact hlt)
      have HST := Lib.hid (lineL_take (l := l) (k := k) (by rw [HL.out]; exact hlt))
      obtain ⟨hx0, hx1⟩ := HX.out _ (List.getElem_mem (l := l) (n := k) (by rw [HL.out]; exact hlt))
      obtain ⟨x1, hx1'⟩ : ∃ x, (l[k]'(by rw [HL.out]; exact hlt)).1 = x := ⟨_, rfl⟩
      obtain ⟨x2, hx2'⟩ : ∃ x, (l[k]'(by rw [HL.out]; exact hlt)).2 = x := ⟨_, rfl⟩
      rw [hx1'] at p1 HST hx0 hx1
      rw [hx2'] at p2
      clear hx1' hx2'
      have HB := Lib.hid hb
      have HN := Lib.hid hn
      have HOW := Lib.hid how
      clear hb hn how
      go_upto_region 5 with fail
      have hbw := Blk.new wr #[.int .i64 x1, .int .u64 x2] 91
      have hn := (Nw.refl (w := wr)).alloc (.cells #[.int .i64 x1, .int .u64 x2] 91)
      clear p1 p2
      generalize wr.alloc (.cells #[.int .i64 x1, .int .u64 x2] 91) = w2 at *
      generalize wr.heap.size = bw at hbw ⊢
      have HB2 := Lib.hid (HB.out.nw hn)
      have HN2 := Lib.hid (HN.out.trans hn)
      have how2 := own_below hn.b HOW.out
      have hs2 := HN2.out.b.size
      have hc0 : w2.cell? ⟨bw, 0, none⟩ = some (.int .i64 x1) := hbw.cell rfl
      clear hn hbw HB HN HOW
      go_wp2_with (first | (at_builtin; go_loud (refine wpList_append_ints _ rfl (.tmp 17) (.tmp 21) 76 rfl w.heap.size 3 i0 (.int .i64 0) 8 Tryz.underlying76 hi hz0 hz1 hz2 rfl _ _ _ rfl (how2.alloc _) _ 1 1 .i64 [x1 / 8] _ rfl rfl (Ints.one _ _ _ _) (by unfold maxLen; omega) (by omega) (by simp; omega) ?_); intro v3 w3 hown3 hgrow3; have hb3 : Below w.heap.size w w3 := Below.grownRow (HN2.out.b.alloc hs2 _) hgrow3 (by simp; omega) (how2.alloc _) (Nat.le_refl _); have HB3 := Lib.hid (show Blk w3 bx _ _ from grown_blk (HB2.out.alloc _) hgrow3 (how2.alloc _) (by decide)); clear hgrow3 hc0; rw [← List.map_append, ← HST.out] at hown3; have HO3 := Lib.hid hown3; clear hown3) | fail)
      go_roundw
      case rel => exact ⟨k + 1, by omega, by go_num, HB3.out, ⟨hb3⟩, HO3.out⟩
      case measure => simp [intOf]; omega
    · obtain rfl : k = n := by omega
      rw [List.take_of_length_le (by rw [HL.out]; exact Nat.le_refl _)] at how
      have HB := Lib.hid hb
      have HN := Lib.hid hn
      have HOW := Lib.hid how
      clear hb hn how
      go_wp2_with fail
      have hle1 := HN.out.b.size
      refine (sort_own wr HOW.out (by omega)).mono ?_
      rintro e w2 ⟨rfl, ho2, hg2⟩
      have HB2 := Lib.hid (grown_blk HB.out hg2 HOW.out (by decide))
      have HN2 : Hid (Nw w w2) := ⟨Below.grownRow HN.out.b hg2 hle1 HOW.out (Nat.le_refl _)⟩
      have hle2 := HN2.out.b.size
      clear hg2 HB HN HOW
      have HOW2 := Lib.hid ho2
      clear ho2
      go_wp2_with fail
      refine (compact_own w2 HOW2.out (by omega)).mono ?_
      rintro e w3 ⟨v3, rfl, ho3, hg3⟩
      have HB3 := Lib.hid (grown_blk HB2.out hg3 HOW2.out (by decide))
      have HN3 : Hid (Nw w w3) := ⟨Below.grownRow HN2.out.b hg3 hle2 HOW2.out (Nat.le_refl _)⟩
      clear hg3 HB2 HN2 HOW2
      have hlz : ∀ z ∈ lineL l, 0 ≤ z ∧ z < 8192 := by
        intro z hz
        obtain ⟨x, hx, rfl⟩ := List.mem_map.1 hz
        have := HX.out x hx
        omega
      have hm1 := compact_le (sortL (lineL l))
      rw [sortL_length, lineL_len, HL.out] at hm1
      rw [compact_sort hlz] at ho3 hm1
      have HSE : Hid (settleL p l = flushL9 p (linesOf (lineL l)) ++ [⟨p, .fence⟩]) := rfl
      obtain ⟨zs, hzs⟩ : ∃ zs, linesOf (lineL l) = zs := ⟨_, rfl⟩
      rw [hzs] at ho3 hm1 HSE
      clear hlz hzs
      obtain ⟨m, hm⟩ : ∃ m, zs.length = m := ⟨_, rfl⟩
      rw [hm] at ho3 hm1
      have HM := Lib.hid hm
      clear hm
      obtain ⟨a3, c3, rfl⟩ := own_slice ho3
      have HO3 := Lib.hid ho3
      have HM0 := Lib.hid ((RunM.refl HR.out).nw HN3.out)
      clear ho3
      go_wp2_with fail
      go_loopw [29] (fun v wr => ∃ j : Nat, j ≤ m ∧ v = .int .i64 j ∧ Blk wr bx #[.pointer (some ⟨r, 0, none⟩)] 48 ∧ wr.ownsRow w.heap.size 3 1 (.slice a3 m c3) m (zs.map (.int .i64)) ∧ ∃ a', RunM w r d g area a (L ++ flushL9 p (zs.take j)) a' wr) (fun v _ => m - (intOf v).toNat)
      case atStart => exact ⟨0, Nat.zero_le _, rfl, HB3.out, HO3.out, a, by simpa [flushL9] using HM0.out⟩
      case round =>
        clear HB3 HN3 HO3 HM0
        obtain ⟨j, hj, rfl, hb, how, a', hm⟩ := hrel
        have HB := Lib.hid hb
        have HOW := Lib.hid how
        have HRM := Lib.hid hm
        clear hb how hm
        by_cases hlt2 : j < m
        · obtain ⟨a4, c4, he4, _, hI4⟩ := Ints.of_owns HOW.out
          simp only [Value.slice.injEq, true_and] at he4
          obtain ⟨rfl, -, rfl⟩ := he4
          obtain ⟨qb, qo, rfl, _, hc⟩ := hI4.at (j := j) (by rw [HM.out]; exact hlt2)
          have HST := Lib.hid (flushL9_take (p := p) (zs := zs) (k := j) (by rw [HM.out]; exact hlt2))
          obtain ⟨z, hz⟩ : ∃ z, zs[j]'(by rw [HM.out]; exact hlt2) = z := ⟨_, rfl⟩
          rw [hz] at hc HST
          clear hz hI4
          go_upto_region 11 with fail
          have hbw := Blk.new wr #[.int .i64 z] 3
          have hn := (Nw.refl (w := wr)).alloc (.cells #[.int .i64 z] 3)
          clear hc
          generalize wr.alloc (.cells #[.int .i64 z] 3) = w4 at *
          generalize wr.heap.size = bl at hbw ⊢
          have HB4 := Lib.hid (HB.out.nw hn)
          have HRM4 := Lib.hid (HRM.out.nw hn)
          have HOW4 := Lib.hid (own_below hn.b HOW.out)
          have hcb : w4.cell? ⟨bx, 0, none⟩ = some (.pointer (some ⟨r, 0, none⟩)) := HB4.out.cell rfl
          have HPU := Lib.hid (push_any r d g area (L ++ flushL9 p (zs.take j)) a' (by rw [List.length_append, flushL9_len, List.length_take]; omega) p (.flush z) (.func (.func 115) #[] #[.pointer (some ⟨bx, 0, none⟩), .pointer (some ⟨bl, 0, none⟩)]) w4 HRM4.out.rr ⟨bx, bl, rfl, HB4.out, hbw⟩)
          clear hbw hn HB HRM HOW
          go_wp2_with fail
          refine HPU.out.mono ?_
          rintro e w5 ⟨⟨u, rfl⟩, a5, hm5⟩
          have HB5 := Lib.hid (hm5.u.blk HB4.out (HRM4.out.rr.not_own HB4.out.tag (by decide) (by decide)))
          have HOW5 := Lib.hid (own_upo HOW4.out hm5.u (fun g hg => HRM4.out.rr.not_own hg (by decide) (by decide)))
          have HRM5 := Lib.hid (HRM4.out.then hm5)
          clear hm5 hcb
          go_wp2_with fail
          go_roundw
          case rel => exact ⟨j + 1, by omega, by go_num, HB5.out, HOW5.out, a5, by rw [HST.out, ← List.append_assoc]; exact HRM5.out⟩
          case measure => simp [intOf]; omega
        · obtain rfl : j = m := by omega
          rw [List.take_of_length_le (by rw [HM.out]; exact Nat.le_refl _)] at HRM
          have hcb : wr.cell? ⟨bx, 0, none⟩ = some (.pointer (some ⟨r, 0, none⟩)) := HB.out.cell rfl
          obtain ⟨cc, hkk, vs', hs', hq'⟩ := HRM.out.rr.k
          have hcr : wr.cell? ⟨r, 0, none⟩ = some (.pointer (some ⟨d, 0, none⟩)) := hkk.cell rfl
          have hlen9 : (L ++ flushL9 p zs).length ≤ 100000 := by rw [List.length_append, flushL9_len, HM.out]; omega
          have HPU := Lib.hid (fun (W : World) (h : Nw wr W) => push_any r d g area (L ++ flushL9 p zs) a' hlen9 p .fence (.func (.func 117) #[.pointer (some ⟨d, 0, none⟩)] #[]) W (HRM.out.rr.nw h) rfl)
          have HK9 : Hid (∀ (W5 : World) (a5 : Option Addr) (L5 : List St), RunM wr.drew r d g area a' L5 a5 W5 → W5.cell? ⟨bx, 0, none⟩ = some (.pointer (some ⟨r, 0, none⟩)) ∧ W5.cell? ⟨r, 0, none⟩ = some (.pointer (some ⟨d, 0, none⟩))) := by
            intro W5 a5 L5 hm5
            refine ⟨(hm5.u.blk (HB.out.nw Nw.refl.drew) ((HRM.out.rr.nw Nw.refl.drew).not_own (HB.out.nw Nw.refl.drew).tag (by decide) (by decide))).cell rfl, ?_⟩
            obtain ⟨c9, k9, _⟩ := hm5.rr.k
            exact k9.cell rfl
          clear hkk hs' hq' hlen9
          go_wp2_with fail
          go_region_held3 (fun w' => w'.cell? ⟨bx, 0, none⟩ = some (.pointer (some ⟨r, 0, none⟩)) ∧ w'.cell? ⟨r, 0, none⟩ = some (.pointer (some ⟨d, 0, none⟩)))
            (first | (exact ⟨hcb, hcr⟩) | (exact hk9))
            ((first | (go_at_call 111; refine (HPU.out _ Nw.refl.drew).mono ?_; rintro e w5 ⟨⟨u, rfl⟩, a5, hm5⟩; have hk9 := HK9.out _ _ _ hm5)))
          go_end0
          exact ⟨⟨_, rfl⟩, a5, by rw [HSE.out, ← List.append_assoc]; exact (HRM.out.nw Nw.refl.drew).then hm5⟩

end Go.Proofs.YtkopfnldgnkkoaaGreat

/-
  RUNS: both, mark, apply.
-/
namespace Go.Proofs.YtkopfnldgnkkoaaGreat
open Go.RowKit Go.Shelf
set_option linter.unusedVariables false

def bothL (p q : Int) (l : List Wr) : List St := storeL p l ++ settleL q l
def markL (p : Int) (area v : Int) : List St := bothL p p [(area, v)]
def applyL (area : Int) (l : List Wr) : List St := bothL 4 5 l ++ markL 6 area 0
theorem linesOf_le (zs : List Int) : (linesOf zs).length ≤ 8192 := by
  unfold linesOf
  rw [List.length_map]
  exact Nat.le_trans (List.length_filter_le _ _) (by simp)
theorem settleL_len (p : Int) (l : List Wr) : (settleL p l).length ≤ 8193 := by
  unfold settleL
  rw [List.length_append, flushL9_len]
  have := linesOf_le (lineL l)
  simp only [List.length_cons, List.length_nil]
  omega
theorem bothL_len (p q : Int) (l : List Wr) : (bothL p q l).length ≤ l.length + 8193 := by
  unfold bothL
  rw [List.length_append, storeL_len]
  have := settleL_len q l
  omega
theorem markL_len (p area v : Int) : (markL p area v).length ≤ 8194 := by
  have h := bothL_len p p [(area, v)]
  have e : ([(area, v)] : List Wr).length = 1 := rfl
  rw [e] at h
  unfold markL
  generalize (bothL p p [(area, v)]).length = m at h ⊢
  omega

set_option maxRecDepth 100000 in
set_option maxHeartbeats 2000000 in
theorem both_any (r d : Nat) (g : G) (area : Int) (L : List St) (a : Option Addr) (p q : Int) (la : Option Addr) (n lc : Nat) (l : List Wr) (hl : l.length = n) (hL : L.length + n + n + 1 ≤ 100000) (hx : ∀ x ∈ l, 0 ≤ x.1 ∧ x.1 < 65536) (w : World) (h : RunAt w r d g area L a)
    (hP : ∀ W', UpO (OwnR9 r a) w W' → Pairs .i64 .u64 W'.heap.size W' la l) :
    Calls Tryz.prog 55 #[.pointer (some ⟨r, 0, none⟩), .int .u8 p, .int .u8 q, .slice la n lc] w (fun e w' => (∃ u, e = .returned u) ∧ ∃ a', RunM w r d g area a (L ++ bothL p q l) a' w') := by
  have HL := Lib.hid hl
  have HST := Lib.hid (stores_any r d g area L a p la n lc l hl (by omega) w h hP)
  have hlen : (L ++ storeL p l).length + n + 1 ≤ 100000 := by
    have e : (L ++ storeL p l).length = L.length + n := by rw [List.length_append, storeL_len, hl]
    generalize (L ++ storeL p l).length = m at e ⊢
    omega
  have HSE := Lib.hid (fun (w1 : World) (a1 : Option Addr) (hm : RunM w r d g area a (L ++ storeL p l) a1 w1) => settles_any r d g area (L ++ storeL p l) a1 q la n lc l hl hlen hx w1 hm.rr (fun W' k => hP W' (hm.u.trans k hm.o)))
  clear hP hx hl h
  go_enter Tryz.func55, Tryz.ntmps55
  go_wp2_with fail
  refine HST.out.mono ?_
  rintro e w1 ⟨⟨u, rfl⟩, a1, hm1⟩
  have HM := Lib.hid hm1
  clear hm1
  go_wp2_with fail
  refine (HSE.out w1 a1 HM.out).mono ?_
  rintro e w2 ⟨⟨u2, rfl⟩, a2, hm2⟩
  have HM2 := Lib.hid hm2
  clear hm2
  go_wp2_with fail
  go_end0
  exact ⟨⟨_, rfl⟩, a2, by unfold bothL; rw [← List.append_assoc]; exact HM.out.then HM2.out⟩

set_option maxRecDepth 100000 in
set_option maxHeartbeats 2000000 in
theorem mark_any' (r d : Nat) (g : G) (area : Int) (L : List St) (a : Option Addr) (p v : Int) (hL : L.length ≤ 90000) (h0 : 0 ≤ area) (h1 : area < 65536) (w : World) (h : RunAt w r d g area L a) :
    Calls Tryz.prog 56 #[.pointer (some ⟨r, 0, none⟩), .int .u8 p, .int .u64 v] w (fun e w' => (∃ u, e = .returned u) ∧ ∃ a', RunM w r d g area a (L ++ markL p area v) a' w') := by
  have HR := Lib.hid h
  obtain ⟨c, hk, _⟩ := h.k
  have hc4 : w.cell? ⟨r, 4, none⟩ = some (.int .i64 area) := hk.cell rfl
  have hn := (Nw.refl (w := w)).alloc (.cells #[.int .i64 area, .int .u64 v] 91)
  have hb := Blk.new w #[.int .i64 area, .int .u64 v] 91
  have HBO := Lib.hid (both_any r d g area L a p p (some ⟨w.heap.size, 0, none⟩) 1 1 [(area, v)] rfl (by omega) (by intro x hx; rw [List.mem_singleton.1 hx]; exact ⟨h0, h1⟩) _ (h.nw hn) (fun W' k => by
    have hb' := k.blk hb ((h.nw hn).not_own hb.tag (by decide) (by decide))
    refine .inr ⟨_, 0, rfl, hb'.lt, fun j hj => ?_⟩
    simp at hj
    subst hj
    exact ⟨hb'.cell rfl, hb'.cell rfl⟩))
  clear h hk hb h0 h1
  go_enter Tryz.func56, Tryz.ntmps56
  go_wp2_with fail
  refine HBO.out.mono ?_
  rintro e w2 ⟨⟨u2, rfl⟩, a2, hm2⟩
  have HM2 := Lib.hid hm2
  clear hm2
  go_wp2_with fail
  go_end0
  exact ⟨⟨_, rfl⟩, a2, .pre hn HM2.out⟩

set_option maxRecDepth 100000 in
set_option maxHeartbeats 2000000 in
theorem apply_any (r d : Nat) (g : G) (area : Int) (L : List St) (a : Option Addr) (la : Option Addr) (n lc : Nat) (l : List Wr) (hl : l.length = n) (hL : L.length + n + n ≤ 50000) (hx : ∀ x ∈ l, 0 ≤ x.1 ∧ x.1 < 65536) (h0 : 0 ≤ area) (h1 : area < 65536) (w : World) (h : RunAt w r d g area L a)
    (hP : ∀ W', UpO (OwnR9 r a) w W' → Pairs .i64 .u64 W'.heap.size W' la l) :
    Calls Tryz.prog 58 #[.pointer (some ⟨r, 0, none⟩), .slice la n lc] w (fun e w' => (∃ u, e = .returned u) ∧ ∃ a', RunM w r d g area a (L ++ applyL area l) a' w') := by
  have HBO := Lib.hid (both_any r d g area L a 4 5 la n lc l hl (by omega) hx w h hP)
  have hlen : (L ++ bothL 4 5 l).length ≤ 90000 := by rw [List.length_append]; have := bothL_len 4 5 l; omega
  have HMK := Lib.hid (fun (w1 : World) (a1 : Option Addr) (hm : RunM w r d g area a (L ++ bothL 4 5 l) a1 w1) => mark_any' r d g area (L ++ bothL 4 5 l) a1 6 0 hlen h0 h1 w1 hm.rr)
  clear hP hx hl h h0 h1 hlen
  go_enter Tryz.func58, Tryz.ntmps58
  go_wp2_with fail
  refine HBO.out.mono ?_
  rintro e w1 ⟨⟨u, rfl⟩, a1, hm1⟩
  have HM := Lib.hid hm1
  clear hm1
  go_wp2_with fail
  refine (HMK.out w1 a1 HM.out).mono ?_
  rintro e w2 ⟨⟨u2, rfl⟩, a2, hm2⟩
  have HM2 := Lib.hid hm2
  clear hm2
  go_wp2_with fail
  go_end0
  exact ⟨⟨_, rfl⟩, a2, by unfold applyL; rw [← List.append_assoc]; exact HM.out.then HM2.out⟩

end Go.Proofs.YtkopfnldgnkkoaaGreat

/-
  RUNS: Clone of writes and of words; Begin.
-/
namespace Go.Proofs.YtkopfnldgnkkoaaGreat
open Go.RowKit Go.Shelf
set_option linter.unusedVariables false

attribute [local go_sem] Lib.run_eql_slice_nil in
set_option maxHeartbeats 2000000 in
theorem cloneW_nil (w : World) :
    Calls Tryz.prog 59 #[.slice none 0 0] w fun e w' => e = .returned (.slice none 0 0) ∧ w = w' := by
  have hu := Tryz.underlying43
  go_enter Tryz.func59, Tryz.ntmps59
  go_wp2_with fail
  go_ret
  exact ⟨rfl, rfl⟩
theorem pairs_cells {n₀ : Nat} {w : World} {b off : Nat} {l : List Wr} (h : Pairs .i64 .u64 n₀ w (some ⟨b, off, none⟩) l) (j : Nat) (u : Value) (hj : (prC l)[j]? = some u) : w.cell? ((⟨b, off, none⟩ : Addr).add j) = some u := by
  rw [Addr.add_lit]
  rcases h with rfl | ⟨b', off', e, _, hc⟩
  · simp [prC] at hj
  · cases e
    have hlt := (List.getElem?_eq_some_iff.1 hj).1
    rw [prC_len] at hlt
    obtain ⟨e1, e2⟩ := prC_at l (j / 2) (by omega)
    obtain ⟨c1, c2⟩ := hc (j / 2) (by omega)
    rcases Nat.mod_two_eq_zero_or_one j with h0 | h0
    · rw [show j / 2 * 2 = j by omega] at e1
      rw [show off + j / 2 * 2 = off + j by omega] at c1
      rw [hj] at e1; cases e1; exact c1
    · rw [show j / 2 * 2 + 1 = j by omega] at e2
      rw [show off + j / 2 * 2 + 1 = off + j by omega] at c2
      rw [hj] at e2; cases e2; exact c2
theorem prC_one (l : List Wr) : ∀ u ∈ prC l, u.oneCell' = true := by
  intro u hu
  simp only [prC, List.mem_flatMap, List.mem_cons, List.not_mem_nil, or_false] at hu
  obtain ⟨x, _, rfl | rfl⟩ := hu <;> rfl
/-- What Clone of writes tells. -/
def CloneW (w : World) (l : List Wr) (e : Ending) (w' : World) : Prop :=
  ∃ a c, e = .returned (.slice a l.length c) ∧ l.length ≤ c ∧ Pairs .i64 .u64 w'.heap.size w' a l ∧ Nw w w' ∧ ∀ p, a = some p → w.heap.size ≤ p.block
attribute [local go_sem] Lib.run_eql_slice_nil in
set_option maxHeartbeats 2000000 in
theorem cloneW_some (b off n c n₀ : Nat) (l : List Wr) (hx : l.length = n) (hn : n ≤ 1000000) (w : World) (hn₀ : n₀ ≤ w.heap.size) (hI : Pairs .i64 .u64 n₀ w (some ⟨b, off, none⟩) l) :
    Calls Tryz.prog 59 #[.slice (some ⟨b, off, none⟩) n c] w (CloneW w l) := by
  obtain ⟨i0, hi, hz0, hz1, hz2⟩ := info_parts8 info_wr
  have hu := Tryz.underlying43
  have HX := Lib.hid hx
  have HI := Lib.hid hI
  clear hx hI
  go_enter Tryz.func59, Tryz.ntmps59
  have how : ∀ W, Nw (w.alloc (.cells #[] 91)) W → W.ownsRow w.heap.size 91 2 (.slice (some ⟨w.heap.size, 0, none⟩) 0 0) 0 ([] : List Value) := fun W k =>
    ⟨rfl, .inr ⟨w.heap.size, 0, #[], rfl, Nat.le_refl _, (k.b.block w.heap.size (by simp)).trans (heap_alloc_new w _), Nat.le_refl _, Nat.zero_le _, rfl, rfl⟩⟩
  have hbel : Below w.heap.size w (w.alloc (.cells #[] 91)) := (Below.refl _ w).alloc (Nat.le_refl _) _
  have HC := Lib.hid (pairs_cells (HI.out.below (hbel.mono hn₀)))
  go_wp2_with (first | (at_builtin; go_loud (refine wpList_append_own _ rfl (.tmp 5) (.tmp 6) 43 rfl w.heap.size 91 i0 (.agg #[.int .i64 0, .int .u64 0]) 2 16 Tryz.underlying43 hi hz0 hz1 hz2 rfl (by decide) _ 0 _ rfl (how _ Nw.refl) ⟨b, off, none⟩ n c (prC l) rfl (by rw [prC_len, HX.out]) HC.out (prC_one l) (by unfold maxLen; omega) (by omega) (by simp) ?_); intro v3 w3 hown3 hgrow3 _; have hb3 : Below w.heap.size w w3 := Below.grownRow hbel hgrow3 (by simp) (how _ Nw.refl) (Nat.le_refl _); clear hgrow3) | fail)
  go_ret
  simp only [List.nil_append, Nat.zero_add] at hown3
  rw [← HX.out] at hown3
  obtain ⟨a', c', rfl, hc', hP'⟩ := Pairs.of_owns hown3
  exact ⟨a', c', rfl, hc', hP', ⟨hb3⟩, own_fresh hown3⟩
/-- The shapes of slices: nil, or in a block. -/
def Shp (a : Option Addr) (n c : Nat) : Prop := (a = none ∧ n = 0 ∧ c = 0) ∨ ∃ b off, a = some ⟨b, off, none⟩
theorem own_shp {w : World} {base : Nat} {e : TypeId} {sz : Nat} {a : Option Addr} {m c n : Nat} {xs : List Value} (h : w.ownsRow base e sz (.slice a m c) n xs) : Shp a m c := by
  rcases h.2 with ⟨h1, _⟩ | ⟨g, cap, cur, hv, _⟩
  · cases h1; exact .inl ⟨rfl, rfl, rfl⟩
  · cases hv; exact .inr ⟨g, 0, rfl⟩
theorem cloneW_any (a : Option Addr) (n c n₀ : Nat) (l : List Wr) (hx : l.length = n) (ha : Shp a n c) (hn : n ≤ 1000000) (w : World) (hn₀ : n₀ ≤ w.heap.size) (hI : Pairs .i64 .u64 n₀ w a l) :
    Calls Tryz.prog 59 #[.slice a n c] w (CloneW w l) := by
  rcases ha with ⟨rfl, rfl, rfl⟩ | ⟨b, off, rfl⟩
  · obtain rfl : l = [] := List.length_eq_zero_iff.1 hx
    refine (cloneW_nil w).mono ?_
    rintro e w' ⟨rfl, rfl⟩
    exact ⟨none, 0, rfl, Nat.le_refl _, .inl rfl, Nw.refl, fun p hp => by cases hp⟩
  · exact cloneW_some b off n c n₀ l hx hn w hn₀ hI

attribute [local go_sem] Lib.run_eql_slice_nil in
set_option maxHeartbeats 2000000 in
theorem cloneU_nil (w : World) :
    Calls Tryz.prog 80 #[.slice none 0 0] w (OwnU w []) := by
  have hu := Tryz.underlying33
  go_enter Tryz.func80, Tryz.ntmps80
  go_wp2_with fail
  go_ret
  exact ⟨_, rfl, World.ownsRow_nil _ _ _ _, Nw.refl⟩
attribute [local go_sem] Lib.run_eql_slice_nil in
set_option maxHeartbeats 2000000 in
theorem cloneU_some (b off n c n₀ : Nat) (zs : List Int) (hx : zs.length = n) (hn : n ≤ 1000000) (w : World) (hn₀ : n₀ ≤ w.heap.size) (hI : Ints n₀ .u64 w (some ⟨b, off, none⟩) zs) :
    Calls Tryz.prog 80 #[.slice (some ⟨b, off, none⟩) n c] w (OwnU w zs) := by
  obtain ⟨i0, hi, hz0, hz1, hz2⟩ := info_parts8 info_u64
  have hu := Tryz.underlying33
  have HX := Lib.hid hx
  have HI := Lib.hid hI
  clear hx hI
  go_enter Tryz.func80, Tryz.ntmps80
  have how : ∀ W, Nw (w.alloc (.cells #[] 44)) W → W.ownsRow w.heap.size 44 1 (.slice (some ⟨w.heap.size, 0, none⟩) 0 0) 0 ([] : List Value) := fun W k =>
    ⟨rfl, .inr ⟨w.heap.size, 0, #[], rfl, Nat.le_refl _, (k.b.block w.heap.size (by simp)).trans (heap_alloc_new w _), Nat.le_refl _, Nat.zero_le _, rfl, rfl⟩⟩
  have hbel : Below w.heap.size w (w.alloc (.cells #[] 44)) := (Below.refl _ w).alloc (Nat.le_refl _) _
  have HC := Lib.hid (HI.out.below (hbel.mono hn₀))
  go_wp2_with (first | (at_builtin; go_loud (refine wpList_append_ints _ rfl (.tmp 5) (.tmp 6) 33 rfl w.heap.size 44 i0 (.int .u64 0) 8 Tryz.underlying33 hi hz0 hz1 hz2 rfl _ 0 _ rfl (how _ Nw.refl) _ n c .u64 zs _ rfl HX.out HC.out (by unfold maxLen; omega) (by omega) (by simp) ?_); intro v3 w3 hown3 hgrow3; have hb3 : Below w.heap.size w w3 := Below.grownRow hbel hgrow3 (by simp) (how _ Nw.refl) (Nat.le_refl _); clear hgrow3) | fail)
  go_ret
  simp only [List.nil_append, Nat.zero_add] at hown3
  exact ⟨_, rfl, by rw [HX.out]; exact hown3, ⟨hb3⟩⟩
theorem cloneU_any (a : Option Addr) (n c n₀ : Nat) (zs : List Int) (hx : zs.length = n) (ha : Shp a n c) (hn : n ≤ 1000000) (w : World) (hn₀ : n₀ ≤ w.heap.size) (hI : Ints n₀ .u64 w a zs) :
    Calls Tryz.prog 80 #[.slice a n c] w (OwnU w zs) := by
  rcases ha with ⟨rfl, rfl, rfl⟩ | ⟨b, off, rfl⟩
  · obtain rfl : zs = [] := List.length_eq_zero_iff.1 hx
    exact cloneU_nil w
  · exact cloneU_some b off n c n₀ zs hx hn w hn₀ hI

end Go.Proofs.YtkopfnldgnkkoaaGreat

/-
  RUNS: Begin.
-/
namespace Go.Proofs.YtkopfnldgnkkoaaGreat
open Go.RowKit Go.Shelf
set_option linter.unusedVariables false

/-- The writes of a record into an area. -/
def ownW (area : Int) (ws : List Int) : List Wr := (List.range ws.length).map fun (i : Nat) => (area + 8 + (i : Int), ws[i]?.getD 0)
theorem ownW_len (area : Int) (ws : List Int) : (ownW area ws).length = ws.length := by simp [ownW]
theorem ownW_take {area : Int} {ws : List Int} {k : Nat} (h : k < ws.length) : (ownW area ws).take (k + 1) = (ownW area ws).take k ++ [(area + 8 + (k : Int), ws[k])] := by
  rw [List.take_succ_eq_append_getElem (by rw [ownW_len]; exact h)]
  simp [ownW, h]
def beginL (area : Int) (l : List Wr) : List St := bothL 1 2 (ownW area (recL l)) ++ markL 3 area (markV (recL l)) ++ applyL area l
theorem pairs_upo {O : Nat → Prop} {k1 k2 : IntKind} {n₀ : Nat} {W W' : World} {a : Option Addr} {l : List Wr} (h : Pairs k1 k2 n₀ W a l) (k : UpO O W W') (hO : ∀ p, a = some p → ¬ O p.block) : Pairs k1 k2 n₀ W' a l := by
  rcases h with h | ⟨b, off, rfl, hb, hc⟩
  · exact .inl h
  · have hn := hO _ rfl
    exact .inr ⟨b, off, rfl, hb, fun j hj => ⟨k.cell (hc j hj).1 hn, k.cell (hc j hj).2 hn⟩⟩
theorem prC_own (l : List Wr) (x : Wr) : prC l ++ [.int .i64 x.1, .int .u64 x.2] = prC (l ++ [x]) := (prC_snoc l x).symm

set_option maxRecDepth 100000 in
set_option maxHeartbeats 2000000 in
theorem begin_nil (la : Option Addr) (n lc : Nat) (w : World) :
    Calls Tryz.prog 12 #[.pointer none, .slice la n lc] w fun e w' => e = .returned (.int .i64 2) ∧ w = w' := by
  go_enter Tryz.func12, Tryz.ntmps12
  go_wp2_with fail
  go_ret
  exact ⟨rfl, rfl⟩
set_option maxRecDepth 100000 in
set_option maxHeartbeats 2000000 in
theorem begin_busy (r d : Nat) (g : G) (area : Int) (L : List St) (a : Option Addr) (h0 : 0 < L.length) (la : Option Addr) (n lc : Nat) (w : World) (h : RunAt w r d g area L a) :
    Calls Tryz.prog 12 #[.pointer (some ⟨r, 0, none⟩), .slice la n lc] w fun e w' => e = .returned (.int .i64 3) ∧ w = w' := by
  obtain ⟨c, hk, _⟩ := h.k
  have hc5 : w.cell? ⟨r, 5, none⟩ = some (.slice a L.length c) := hk.cell rfl
  clear h hk
  go_enter Tryz.func12, Tryz.ntmps12
  go_wp2_with fail
  go_ret
  exact ⟨rfl, rfl⟩
set_option maxRecDepth 100000 in
set_option maxHeartbeats 2000000 in
theorem begin_no (r d : Nat) (g : G) (area : Int) (a : Option Addr) (la : Option Addr) (n lc n₀ : Nat) (l : List Wr) (hl : l.length = n) (hn : n ≤ 1000000) (hu : ∀ x ∈ l, (Lit.int .i64 x.1).wf = true) (hm : mayW g l = false) (w : World) (hn₀ : n₀ ≤ w.heap.size) (hI : Pairs .i64 .u64 n₀ w la l) (h : RunAt w r d g area [] a) :
    Calls Tryz.prog 12 #[.pointer (some ⟨r, 0, none⟩), .slice la n lc] w fun e w' => e = .returned (.int .i64 1) ∧ Nw w w' := by
  obtain ⟨c, hk, _⟩ := h.k
  have hc1 : w.cell? ⟨r, 1, none⟩ = some (.int .i64 g.w) := hk.cell rfl
  have hc2 : w.cell? ⟨r, 2, none⟩ = some (.int .i64 g.i) := hk.cell rfl
  have hc3 : w.cell? ⟨r, 3, none⟩ = some (.int .i64 g.b) := hk.cell rfl
  have hc5 : w.cell? ⟨r, 5, none⟩ = some (.slice a 0 c) := hk.cell rfl
  have HM := Lib.hid (rcmay_any g la lc n₀ l hu w hn₀ hI (by omega))
  rw [hl, hm] at HM
  unfold gV at HM
  clear h hk hI hu hm
  go_enter Tryz.func12, Tryz.ntmps12
  go_wp2_with fail
  refine HM.out.mono ?_
  rintro e w1 ⟨rfl, hn1⟩
  have HN1 := Lib.hid hn1
  clear hn1
  go_wp2_with fail
  go_ret
  exact ⟨rfl, HN1.out⟩

set_option maxRecDepth 100000 in
set_option maxHeartbeats 8000000 in
theorem begin_yes (r d : Nat) (g : G) (area : Int) (a : Option Addr) (h0 : 0 ≤ area) (h1 : area + 208 ≤ 65536) (la : Option Addr) (n lc n₀ : Nat) (l : List Wr) (hl : l.length = n) (hsh : Shp la n lc) (hu : ∀ x ∈ l, (Lit.int .i64 x.1).wf = true ∧ u64 x.2) (hm : mayW g l = true) (w : World) (hn₀ : n₀ ≤ w.heap.size) (hI : Pairs .i64 .u64 n₀ w la l) (h : RunAt w r d g area [] a)
    (hla : ∀ p, la = some p → ¬ OwnR9 r a p.block) :
    Calls Tryz.prog 12 #[.pointer (some ⟨r, 0, none⟩), .slice la n lc] w (RunG w r d g area a (beginL area l) (.int .i64 0)) := by
  obtain ⟨i0, hi, hz0, hz1, hz2⟩ := info_parts8 info_wr
  have hsm := may_small hm
  have hng := may_neg hm
  have hn96 : n ≤ 96 := by rw [← hl]; exact hsm.1
  have hxb : ∀ x ∈ l, 0 ≤ x.1 ∧ x.1 < 65536 := fun x hx => by
    obtain ⟨i, hi, e⟩ := atW_mem hx
    have := hsm.2 i hi
    rw [e] at this; exact this
  have hok : okW l := fun x hx => ⟨by have := hxb x hx; omega, (hu x hx).2⟩
  have hwl : wordsL l = recL l := if_neg (by rintro (h | h); omega; rw [hng] at h; cases h)
  have hwe : wordsE l = 0 := (if_neg (by omega)).trans (if_neg (by rw [hng]; decide))
  have hru := rec_u64 (by omega) hok hng
  have hrl : (recL l).length = 2 + 2 * n := by rw [recL_len, hl]
  obtain ⟨c, hk, _⟩ := h.k
  have HXB := Lib.hid hxb
  have HM := Lib.hid (rcmay_any g la lc n₀ l (fun x hx => (hu x hx).1) w hn₀ hI (by omega))
  have HW := Lib.hid (fun (w1 : World) (hn1 : Nw w w1) => words_any la lc n₀ l hok w1 (Nat.le_trans hn₀ hn1.b.size) (hI.below (hn1.b.mono hn₀)) (by omega))
  rw [hl, hm] at HM
  rw [hl] at HW
  have HRU := Lib.hid hru
  have HR := Lib.hid h
  have HLA := Lib.hid hla
  have HSH := Lib.hid hsh
  have HL := Lib.hid hl
  have HI := Lib.hid hI
  have HWL := Lib.hid hwl
  have HWE := Lib.hid hwe
  have HBL : Hid (beginL area l = bothL 1 2 (ownW area (recL l)) ++ markL 3 area (markV (recL l)) ++ applyL area l) := rfl
  obtain ⟨ws, hws⟩ : ∃ ws, recL l = ws := ⟨_, rfl⟩
  rw [hws] at HRU hrl HWL HBL
  obtain ⟨m, hm2⟩ : ∃ m, 2 + 2 * n = m := ⟨_, rfl⟩
  rw [hm2] at hrl
  have hm3 : m ≤ 194 := by omega
  have HRL := Lib.hid hrl
  clear hws hl hm2
  have hc1 : w.cell? ⟨r, 1, none⟩ = some (.int .i64 g.w) := hk.cell rfl
  have hc2 : w.cell? ⟨r, 2, none⟩ = some (.int .i64 g.i) := hk.cell rfl
  have hc3 : w.cell? ⟨r, 3, none⟩ = some (.int .i64 g.b) := hk.cell rfl
  have hc5 : w.cell? ⟨r, 5, none⟩ = some (.slice a 0 c) := hk.cell rfl
  unfold gV at HM
  clear h hk hI hu hm hru hrl hwl hwe hla hsh hok hxb hsm hng
  go_enter Tryz.func12, Tryz.ntmps12
  go_wp2_with fail
  refine HM.out.mono ?_
  rintro e w1 ⟨rfl, hn1⟩
  have HN1 := Lib.hid hn1
  clear hn1 hc1 hc2 hc3 hc5
  go_wp2_with fail
  refine (HW.out w1 HN1.out).mono ?_
  rintro e w2 ⟨a2, c2, rfl, hc2, hI2, hn2, hf2⟩
  rw [HWE.out]
  rw [HWL.out] at hc2 hI2 ⊢
  rw [HRL.out] at hc2 ⊢
  have HN2 := Lib.hid (HN1.out.trans hn2)
  have HI2 := Lib.hid hI2
  have HF2 := Lib.hid (fun p hp => Nat.le_trans HN1.out.b.size (hf2 p hp))
  clear hI2 hn2 hf2 HW HN1
  go_wp2_with fail
  go_loopw [38, 7] (fun i v wr => ∃ k : Nat, k ≤ m ∧ i = .int .i64 k ∧ Nw w2 wr ∧ wr.ownsRow w2.heap.size 91 2 v k (prC ((ownW area ws).take k))) (fun i _ _ => m - (intOf i).toNat)
  case atStart => exact ⟨0, Nat.zero_le _, rfl, Nw.refl, rfl, .inl ⟨rfl, rfl⟩⟩
  case round =>
    obtain ⟨k, hk, rfl, hn, how⟩ := hrel
    by_cases hlt : k < m
    · obtain ⟨qb, qo, rfl, _, hc⟩ := (Ints.nw (n := 0) hn HI2.out).at (j := k) (by rw [HRL.out]; exact hlt)
      have HST := Lib.hid (ownW_take (area := area) (ws := ws) (k := k) (by rw [HRL.out]; exact hlt))
      obtain ⟨z, hz⟩ : ∃ z, ws[k]'(by rw [HRL.out]; exact hlt) = z := ⟨_, rfl⟩
      rw [hz] at hc HST
      obtain ⟨cc, hkk, _⟩ := ((HR.out.nw HN2.out).nw hn).k
      have hc4 : wr.cell? ⟨r, 4, none⟩ = some (.int .i64 area) := hkk.cell rfl
      have HN := Lib.hid hn
      have HOW := Lib.hid how
      have hs := hn.b.size
      clear hz hn how hkk
      go_wp2_with (first | (at_builtin; go_loud (refine wpList_append_own _ rfl (.tmp 43) (.tmp 53) 43 rfl w2.heap.size 91 i0 (.agg #[.int .i64 0, .int .u64 0]) 2 16 Tryz.underlying43 hi hz0 hz1 hz2 rfl (by decide) _ k _ rfl (HOW.out.alloc _) ⟨wr.heap.size, 0, none⟩ 1 1 [.int .i64 (area + 8 + (k : Int)), .int .u64 z] rfl rfl (two_cells _ _ _ _) (by intro u hu; simp at hu; rcases hu with rfl | rfl <;> rfl) (by unfold maxLen; omega) (by omega) (by simp; omega) ?_); intro v3 w3 hown3 hgrow3 _; have hb3 : Below w2.heap.size w2 w3 := Below.grownRow (HN.out.b.alloc hs _) hgrow3 (by simp; omega) (HOW.out.alloc _) (Nat.le_refl _); clear hgrow3; rw [prC_own _ (area + 8 + (k : Int), z), ← HST.out] at hown3; have HO3 := Lib.hid hown3; clear hown3) | fail)
      go_roundw
      case rel => exact ⟨k + 1, by omega, by go_num, ⟨hb3⟩, HO3.out⟩
      case measure => simp [intOf]; omega
    · obtain rfl : k = m := by omega
      rw [List.take_of_length_le (by rw [ownW_len, HRL.out]; exact Nat.le_refl _)] at how
      have HN := Lib.hid hn
      obtain ⟨a3, c3, rfl⟩ := own_slice how
      have HOW := Lib.hid how
      clear hn how
      have HRr := Lib.hid ((HR.out.nw HN2.out).nw HN.out)
      have HM0 := Lib.hid ((RunM.refl HR.out).nw (HN2.out.trans HN.out))
      have HOL : Hid ((ownW area ws).length = k) := by show _ = _; rw [ownW_len, HRL.out]
      have hpo : ∀ W', UpO (OwnR9 r a) wr W' → Pairs .i64 .u64 W'.heap.size W' a3 (ownW area ws) := by
        intro W' k'
        have h9 := own_upo HOW.out k' (fun g hg => HRr.out.not_own hg (by decide) (by decide))
        have e := HOL.out
        generalize ownW area ws = ow at h9 e ⊢
        subst e
        obtain ⟨a', c', he, _, hp⟩ := Pairs.of_owns h9
        simp only [Value.slice.injEq, true_and] at he
        obtain ⟨rfl, -⟩ := he
        exact hp
      have hox : ∀ x ∈ ownW area ws, 0 ≤ x.1 ∧ x.1 < 65536 := by
        intro x hx
        simp only [ownW, List.mem_map, List.mem_range] at hx
        obtain ⟨i, hi, rfl⟩ := hx
        rw [HRL.out] at hi
        dsimp only
        omega
      have HB1 := Lib.hid (both_any r d g area [] a 1 2 a3 k c3 (ownW area ws) HOL.out (by simp; omega) hox wr HRr.out hpo)
      have HIr := Lib.hid (Ints.nw (n := 0) HN.out HI2.out)
      have HNA : Hid (∀ p, a2 = some p → ¬ OwnR9 r a p.block) := fun p hp hx => by
        have h1 := HF2.out p hp
        have h2 := HR.out.own_lt hx
        omega
      clear hpo hox
      go_wp2_with fail
      refine HB1.out.mono ?_
      rintro e w4 ⟨⟨u, rfl⟩, a4, hm4⟩
      have HM4 := Lib.hid (show RunM wr r d g area a (bothL 1 2 (ownW area ws)) a4 w4 from by simpa using hm4)
      clear hm4
      have HI4 := Lib.hid (HM4.out.u.ints HIr.out (fun _ => HNA.out))
      have HMK := Lib.hid (mark_any a2 c2 wr.heap.size ws (by rw [HRL.out]; exact hc2) HRU.out (by rw [HRL.out]; omega) w4 HI4.out)
      rw [HRL.out] at HMK
      have hlen1 : (bothL 1 2 (ownW area ws)).length ≤ 90000 := by have := bothL_len 1 2 (ownW area ws); rw [HOL.out] at this; omega
      go_wp2_with fail
      refine HMK.out.mono ?_
      rintro e w5 ⟨rfl, q, hq⟩
      have HN5 := Lib.hid (show Nw w4 w5 from by rw [hq]; exact Nw.refl.drewN q)
      clear hq
      have HMA := Lib.hid (mark_any' r d g area (bothL 1 2 (ownW area ws)) a4 3 (markV ws) hlen1 h0 (by omega) w5 (HM4.out.rr.nw HN5.out))
      clear hlen1
      go_wp2_with fail
      refine HMA.out.mono ?_
      rintro e w6 ⟨⟨u, rfl⟩, a6, hm6⟩
      have HM6 := Lib.hid ((HM0.out.then HM4.out).then (.pre HN5.out hm6))
      clear hm6
      have hlen2 : (bothL 1 2 (ownW area ws) ++ markL 3 area (markV ws)).length + n + n ≤ 50000 := by
        have e1 := bothL_len 1 2 (ownW area ws)
        have e2 := markL_len 3 area (markV ws)
        rw [HOL.out] at e1
        rw [List.length_append]
        omega
      have HCL := Lib.hid (cloneW_any la n lc n₀ l HL.out HSH.out (by omega) w6 (Nat.le_trans hn₀ HM6.out.u.size) (pairs_upo HI.out HM6.out.u HLA.out))
      go_wp2_with fail
      refine HCL.out.mono ?_
      rintro e w7 ⟨a7, c7, rfl, hc7, hp7, hn7, hf7⟩
      rw [HL.out]
      have HN7 := Lib.hid hn7
      have HP7 := Lib.hid hp7
      have HF7 := Lib.hid hf7
      have HAP := Lib.hid (apply_any r d g area (bothL 1 2 (ownW area ws) ++ markL 3 area (markV ws)) a6 a7 n c7 l HL.out hlen2 HXB.out h0 (by omega) w7 (HM6.out.rr.nw hn7) (fun W' k' => by
        have h9 := pairs_upo HP7.out k' (fun p hp hx => by have h1 := HF7.out p hp; have h2 := HM6.out.rr.own_lt hx; omega)
        exact h9.mono k'.size))
      clear hc7 hp7 hn7 hf7 hlen2
      go_wp2_with fail
      refine HAP.out.mono ?_
      rintro e w8 ⟨⟨u, rfl⟩, a8, hm8⟩
      have HM8 := Lib.hid ((HM6.out.nw HN7.out).then hm8)
      clear hm8
      go_wp2_with fail
      go_ret
      exact ⟨rfl, a8, by rw [HBL.out]; exact HM8.out⟩

end Go.Proofs.YtkopfnldgnkkoaaGreat

/-
  RUNS, PLAINLY: what all steps of writes leave.
-/
namespace Go.Proofs.YtkopfnldgnkkoaaGreat
set_option linter.unusedVariables false

def doAll (L : List St) (f : Nat → Wd) : Nat → Wd := L.foldl (fun f s => doOp s.o f) f
theorem doAll_nil (f : Nat → Wd) : doAll [] f = f := rfl
theorem doAll_cons (s : St) (L : List St) (f : Nat → Wd) : doAll (s :: L) f = doAll L (doOp s.o f) := rfl
theorem doAll_append (L M : List St) (f : Nat → Wd) : doAll (L ++ M) f = doAll M (doAll L f) := by simp [doAll]
theorem doAll_take_succ {L : List St} {k : Nat} (h : k < L.length) (f : Nat → Wd) : doAll (L.take (k + 1)) f = doOp L[k].o (doAll (L.take k) f) := by
  rw [List.take_succ_eq_append_getElem h, doAll_append]; rfl

/-! ### What is seen -/
theorem upd_at (f : Nat → Wd) (k i : Nat) (x : Wd) : upd f k x i = if i = k then x else f i := rfl
theorem lineU_seen {op : Wd → Wd} (h : ∀ x, (op x).seen = x.seen) (i : Nat) (f : Nat → Wd) (k : Nat) : (lineU i op f k).seen = (f k).seen := by
  unfold lineU; split
  · exact h _
  · rfl
theorem flushW_seen (x : Wd) : (flushW x).seen = x.seen := rfl
theorem fenceW_seen (x : Wd) : (fenceW x).seen = x.seen := by unfold fenceW; split <;> rfl
theorem fenceU_seen (f : Nat → Wd) (k : Nat) : (fenceU f k).seen = (f k).seen := by
  unfold fenceU; split
  · exact fenceW_seen _
  · rfl
/-- What a step's store is. -/
def storeOf : Op9 → List Wr
  | .store x v => [(x, v)]
  | _ => []
/-- What is seen behind writes, in turn. -/
def wrote (l : List Wr) (s : Nat → Int) : Nat → Int := l.foldl (fun s x => fun k => if k = x.1.toNat then x.2 else s k) s
theorem wrote_append (l m : List Wr) (s : Nat → Int) : wrote (l ++ m) s = wrote m (wrote l s) := by simp [wrote]
theorem doOp_seen (o : Op9) (f : Nat → Wd) (k : Nat) : (doOp o f k).seen = wrote (storeOf o) (fun k => (f k).seen) k := by
  cases o with
  | store x v =>
    show (upd f x.toNat (storeW (f x.toNat) v) k).seen = if k = x.toNat then v else (f k).seen
    rw [upd_at]; split <;> rfl
  | flush l => exact lineU_seen flushW_seen _ _ _
  | fence => exact fenceU_seen _ _
theorem doAll_seen : ∀ (L : List St) (f : Nat → Wd) (k : Nat), (doAll L f k).seen = wrote (L.flatMap fun s => storeOf s.o) (fun k => (f k).seen) k
  | [], f, k => rfl
  | s :: L, f, k => by
    rw [doAll_cons, doAll_seen L, List.flatMap_cons, wrote_append]
    congr 1
    funext j
    exact doOp_seen s.o f j
theorem stores_both (p q : Int) (l : List Wr) : ((bothL p q l).flatMap fun s => storeOf s.o) = l := by
  unfold bothL settleL
  rw [List.flatMap_append, List.flatMap_append]
  have h1 : ((storeL p l).flatMap fun s => storeOf s.o) = l := by
    unfold storeL
    induction l with
    | nil => rfl
    | cons x l ih => rw [List.map_cons, List.flatMap_cons, ih]; rfl
  have h2 : ∀ zs : List Int, ((flushL9 q zs).flatMap fun s => storeOf s.o) = [] := by
    intro zs
    unfold flushL9
    induction zs with
    | nil => rfl
    | cons x l ih => rw [List.map_cons, List.flatMap_cons, ih]; rfl
  rw [h1, h2]
  simp [storeOf]

/-! ### A clean device: nothing is loose -/
structure CleanW (x : Wd) : Prop where
  l : x.loose = false
  f : x.flushed = false
  a : x.again = false
  s : x.sure = x.seen
def Clean (N : Nat) (f : Nat → Wd) : Prop := ∀ k, k < N → CleanW (f k)
/-- Clean, or stored and not flushed since. -/
structure StW (x : Wd) : Prop where
  l : x.loose = true
  f : x.flushed = false
/-- Flushed, and not stored since. -/
structure FlW (x : Wd) : Prop where
  l : x.loose = true
  f : x.flushed = true
  a : x.again = false
  v : x.value = x.seen
theorem storeW_st {x : Wd} (h : CleanW x ∨ StW x) (v : Int) : StW (storeW x v) := ⟨rfl, by rcases h with h | h; exact h.f; exact h.f⟩
theorem flushW_fl (x : Wd) : FlW (flushW x) := ⟨rfl, rfl, rfl, rfl⟩
theorem fenceW_clean {x : Wd} (h : FlW x) : CleanW (fenceW x) := by
  unfold fenceW
  rw [if_pos h.f]
  exact ⟨h.a, rfl, h.a, h.v⟩
/-- Behind the stores: what was stored is loose, the rest is clean. -/
theorem stored_all (N : Nat) (p : Int) : ∀ (l : List Wr) (f : Nat → Wd) (A : Nat → Prop), (∀ k, k < N → (A k ∧ StW (f k)) ∨ CleanW (f k)) →
    ∀ k, k < N → ((A k ∨ ∃ x ∈ l, x.1.toNat = k) ∧ StW (doAll (storeL p l) f k)) ∨ CleanW (doAll (storeL p l) f k)
  | [], f, A, h, k, hk => (h k hk).imp (fun ⟨h1, h2⟩ => ⟨.inl h1, h2⟩) id
  | x :: l, f, A, h, k, hk => by
    have ih := stored_all N p l (doOp (.store x.1 x.2) f) (fun k => A k ∨ x.1.toNat = k) (fun j hj => by
      show _ ∨ CleanW (upd f x.1.toNat (storeW (f x.1.toNat) x.2) j)
      show (_ ∧ StW (upd f x.1.toNat (storeW (f x.1.toNat) x.2) j)) ∨ _
      rw [upd_at]
      by_cases e : j = x.1.toNat
      · rw [if_pos e]
        refine .inl ⟨.inr e.symm, storeW_st ?_ _⟩
        rw [← e]
        exact (h j hj).elim (fun hh => .inr hh.2) .inl
      · rw [if_neg e]
        exact (h j hj).imp (fun ⟨h1, h2⟩ => ⟨.inl h1, h2⟩) id) k hk
    refine ih.imp (fun ⟨h1, h2⟩ => ⟨?_, h2⟩) id
    rcases h1 with (h1 | h1) | ⟨y, hy, e⟩
    · exact .inl h1
    · exact .inr ⟨x, List.mem_cons_self, h1⟩
    · exact .inr ⟨y, List.mem_cons_of_mem _ hy, e⟩
/-- Behind the flushes of lines: what is loose in them is flushed. -/
theorem flushed_all (N : Nat) (q : Int) : ∀ (zs : List Int) (f : Nat → Wd) (A : Nat → Prop), (∀ k, k < N → CleanW (f k) ∨ FlW (f k) ∨ (A k ∧ StW (f k))) →
    ∀ k, k < N → CleanW (doAll (flushL9 q zs) f k) ∨ FlW (doAll (flushL9 q zs) f k) ∨ ((A k ∧ ∀ z ∈ zs, z.toNat ≠ k / 8) ∧ StW (doAll (flushL9 q zs) f k))
  | [], f, A, h, k, hk => (h k hk).imp id (fun h => h.imp id (fun ⟨h1, h2⟩ => ⟨⟨h1, by simp⟩, h2⟩))
  | z :: zs, f, A, h, k, hk => by
    have ih := flushed_all N q zs (doOp (.flush z) f) (fun k => A k ∧ z.toNat ≠ k / 8) (fun j hj => by
      show CleanW (lineU z.toNat flushW f j) ∨ FlW (lineU z.toNat flushW f j) ∨ (_ ∧ StW (lineU z.toNat flushW f j))
      unfold lineU
      by_cases e : j / 8 = z.toNat ∧ (f j).loose = true
      · rw [if_pos e]; exact .inr (.inl (flushW_fl _))
      · rw [if_neg e]
        refine (h j hj).imp id (fun h => h.imp id (fun ⟨h1, h2⟩ => ⟨⟨h1, fun e2 => e ⟨e2.symm, h2.l⟩⟩, h2⟩))) k hk
    refine ih.imp id (fun h => h.imp id (fun ⟨⟨⟨h1, h2⟩, h3⟩, h4⟩ => ⟨⟨h1, fun y hy => ?_⟩, h4⟩))
    rcases List.mem_cons.1 hy with rfl | hy
    · exact h2
    · exact h3 y hy
theorem fence_clean (N : Nat) (f : Nat → Wd) (h : ∀ k, k < N → CleanW (f k) ∨ FlW (f k)) : Clean N (fenceU f) := by
  intro k hk
  unfold fenceU
  rcases h k hk with h | h
  · rw [if_neg (by rw [h.l]; simp)]; exact h
  · rw [if_pos h.l]; exact fenceW_clean h
theorem doAll_fence (q : Int) (f : Nat → Wd) : doAll [⟨q, .fence⟩] f = fenceU f := rfl
/-- WRITES, STORED, FLUSHED AND FENCED, LEAVE A CLEAN DEVICE CLEAN. -/
theorem both_clean (N : Nat) (p q : Int) (l : List Wr) (hl : ∀ x ∈ l, 0 ≤ x.1 ∧ x.1 < 65536) (f : Nat → Wd) (h : Clean N f) : Clean N (doAll (bothL p q l) f) := by
  unfold bothL settleL
  rw [doAll_append, doAll_append, doAll_fence]
  refine fence_clean N _ (fun k hk => ?_)
  have h1 := stored_all N p l f (fun _ => False) (fun k hk => .inr (h k hk))
  have h2 := flushed_all N q (linesOf (lineL l)) (doAll (storeL p l) f) (fun k => ∃ x ∈ l, x.1.toNat = k) (fun j hj => by
    rcases h1 j hj with ⟨h1 | h1, h2⟩ | h1
    · exact h1.elim
    · exact .inr (.inr ⟨h1, h2⟩)
    · exact .inl h1) k hk
  rcases h2 with h2 | h2 | ⟨⟨⟨x, hx, e⟩, hno⟩, _⟩
  · exact .inl h2
  · exact .inr h2
  · exfalso
    have hb := hl x hx
    have hm : x.1 / 8 ∈ linesOf (lineL l) := by
      rw [linesOf_mem (fun z hz => by obtain ⟨y, hy, rfl⟩ := List.mem_map.1 hz; have := hl y hy; omega)]
      exact List.mem_map.2 ⟨x, hx, rfl⟩
    exact hno _ hm (by omega)
theorem clean_seen {N : Nat} {f : Nat → Wd} (h : Clean N f) {k : Nat} (hk : k < N) : (f k).sure = (f k).seen := (h k hk).s
theorem clean_loose {N : Nat} {f : Nat → Wd} (h : Clean N f) : looseN N f = 0 := (looseN_zero N f).2 (fun k hk => (h k hk).l)

/-! ### All steps of writes -/
theorem begin_clean (N : Nat) (area : Int) (h0 : 0 ≤ area) (h1 : area + 208 ≤ 65536) (l : List Wr) (hn : l.length ≤ 96) (hl : ∀ x ∈ l, 0 ≤ x.1 ∧ x.1 < 65536) (f : Nat → Wd) (h : Clean N f) : Clean N (doAll (beginL area l) f) := by
  unfold beginL applyL markL
  rw [doAll_append, doAll_append, doAll_append]
  refine both_clean N _ _ _ (by intro x hx; rw [List.mem_singleton.1 hx]; exact ⟨h0, by omega⟩) _ ?_
  refine both_clean N _ _ _ hl _ ?_
  refine both_clean N _ _ _ (by intro x hx; rw [List.mem_singleton.1 hx]; exact ⟨h0, by omega⟩) _ ?_
  refine both_clean N _ _ _ ?_ _ h
  intro x hx
  simp only [ownW, List.mem_map, List.mem_range] at hx
  obtain ⟨i, hi, rfl⟩ := hx
  rw [recL_len] at hi
  dsimp only
  omega
theorem begin_stores (area : Int) (l : List Wr) : ((beginL area l).flatMap fun s => storeOf s.o) = ownW area (recL l) ++ [(area, markV (recL l))] ++ (l ++ [(area, 0)]) := by
  unfold beginL applyL markL
  rw [List.flatMap_append, List.flatMap_append, List.flatMap_append, stores_both, stores_both, stores_both, stores_both]
/-- Steps that a device takes. -/
theorem both_ok {N : Nat} {p q : Int} {l : List Wr} (hl : ∀ x ∈ l, 0 ≤ x.1 ∧ x.1 < 65536 ∧ x.1 < N) : ∀ s ∈ bothL p q l, okOp N s.o := by
  intro s hs
  unfold bothL settleL at hs
  rcases List.mem_append.1 hs with hs | hs
  · obtain ⟨x, hx, rfl⟩ := List.mem_map.1 hs
    have := hl x hx
    exact ⟨this.1, this.2.2⟩
  · rcases List.mem_append.1 hs with hs | hs
    · obtain ⟨z, hz, rfl⟩ := List.mem_map.1 hs
      rw [linesOf_mem (fun z hz => by obtain ⟨y, hy, rfl⟩ := List.mem_map.1 hz; have := hl y hy; omega)] at hz
      obtain ⟨x, hx, rfl⟩ := List.mem_map.1 hz
      have := hl x hx
      exact ⟨by omega, by omega⟩
    · rw [List.mem_singleton.1 hs]; trivial
theorem begin_ok {N : Nat} {area : Int} (h0 : 0 ≤ area) (h1 : area + 208 ≤ 65536) (hN : area + 208 ≤ N) {l : List Wr} (hn : l.length ≤ 96) (hl : ∀ x ∈ l, 0 ≤ x.1 ∧ x.1 < 65536 ∧ x.1 < N) : ∀ s ∈ beginL area l, okOp N s.o := by
  intro s hs
  unfold beginL applyL markL at hs
  have hone : ∀ v : Int, ∀ x ∈ [(area, v)], 0 ≤ x.1 ∧ x.1 < 65536 ∧ x.1 < (N : Int) := by
    intro v x hx; rw [List.mem_singleton.1 hx]; exact ⟨h0, by omega, by dsimp only; omega⟩
  rcases List.mem_append.1 hs with hs | hs
  · rcases List.mem_append.1 hs with hs | hs
    · refine both_ok (fun x hx => ?_) s hs
      simp only [ownW, List.mem_map, List.mem_range] at hx
      obtain ⟨i, hi, rfl⟩ := hx
      rw [recL_len] at hi
      dsimp only
      omega
    · exact both_ok (hone _) s hs
  · rcases List.mem_append.1 hs with hs | hs
    · exact both_ok hl s hs
    · exact both_ok (hone _) s hs

end Go.Proofs.YtkopfnldgnkkoaaGreat
