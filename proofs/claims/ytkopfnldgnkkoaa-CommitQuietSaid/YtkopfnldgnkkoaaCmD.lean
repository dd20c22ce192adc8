import Derived.Test.YtkopfnldgnkkoaaCmA
import Derived.Test.YtkopfnldgnkkoaaRdH
import Derived.Test.YtkopfnldgnkkoaaSrB

/-
  RUNS: the stores of some writes.
-/
namespace Go.Proofs.Ytkopfnldgnkkoaa
open Go.RowKit Go.Shelf
set_option linter.unusedVariables false

/-- The stores of writes. -/
def storeL (p : Int) (l : List Wr) : List St := l.map fun x => ⟨p, .store x.1 x.2⟩
theorem storeL_len (p : Int) (l : List Wr) : (storeL p l).length = l.length := by simp [storeL]
theorem storeL_take {p : Int} {l : List Wr} {k : Nat} (h : k < l.length) : storeL p (l.take (k + 1)) = storeL p (l.take k) ++ [⟨p, .store l[k].1 l[k].2⟩] := by
  unfold storeL
  rw [List.take_succ_eq_append_getElem h, List.map_append]; rfl

set_option maxRecDepth 100000 in
set_option maxHeartbeats 4000000 in
theorem stores_any (r d : Nat) (g : G) (area : Int) (L : List St) (a : Option Addr) (p : Int) (la : Option Addr) (n lc : Nat) (l : List Wr) (hl : l.length = n) (hL : L.length + n ≤ 100000) (w : World) (h : RunAt w r d g area L a)
    (hP : ∀ W', UpO (OwnR9 r a) w W' → Pairs .i64 .u64 W'.heap.size W' la l) :
    Calls Try.prog 71 #[.pointer (some ⟨r, 0, none⟩), .int .u8 p, .slice la n lc] w (fun e w' => (∃ u, e = .returned u) ∧ ∃ a', RunM w r d g area a (L ++ storeL p l) a' w') := by
  have HL := Lib.hid hl
  have HP := Lib.hid hP
  have hN0 := (Nw.refl (w := w)).alloc (.cells #[.pointer (some ⟨r, 0, none⟩)] 32)
  have HM := Lib.hid ((RunM.refl h).nw hN0)
  have hb := Blk.new w #[.pointer (some ⟨r, 0, none⟩)] 32
  clear h hl hP
  go_enter Try.func71, Try.ntmps71
  go_upto_region 1 with fail
  generalize w.alloc (.cells #[.pointer (some ⟨r, 0, none⟩)] 32) = w0 at *
  have HB := Lib.hid hb
  clear hb hN0
  generalize w.heap.size = bx at HB ⊢
  go_wp2_with fail
  go_loopw [10] (fun v wr => ∃ k : Nat, k ≤ n ∧ v = .int .i64 k ∧ Blk wr bx #[.pointer (some ⟨r, 0, none⟩)] 32 ∧ ∃ a', RunM w r d g area a (L ++ storeL p (l.take k)) a' wr) (fun v _ => n - (intOf v).toNat)
  case atStart => exact ⟨0, Nat.zero_le _, rfl, HB.out, a, by simpa [storeL] using HM.out⟩
  case round =>
    clear HB HM
    obtain ⟨k, hk, rfl, hb, a', hm⟩ := hrel
    have HB := Lib.hid hb
    have HM := Lib.hid hm
    clear hb hm
    by_cases hlt : k < n
    · obtain ⟨pb, po, rfl, p1, p2⟩ := Pairs.at (HP.out wr HM.out.u) (j := k) (by rw [HL.out]; exact hlt)
      have HST := Lib.hid (storeL_take (p := p) (l := l) (k := k) (by rw [HL.out]; exact hlt))
      obtain ⟨x1, hx1⟩ : ∃ x, (l[k]'(by rw [HL.out]; exact hlt)).1 = x := ⟨_, rfl⟩
      obtain ⟨x2, hx2⟩ : ∃ x, (l[k]'(by rw [HL.out]; exact hlt)).2 = x := ⟨_, rfl⟩
      rw [hx1] at p1 HST
      rw [hx2] at p2 HST
      clear hx1 hx2
      go_upto_region 4 with fail
      have hbw := Blk.new wr #[.int .i64 x1, .int .u64 x2] 41
      have hn := (Nw.refl (w := wr)).alloc (.cells #[.int .i64 x1, .int .u64 x2] 41)
      clear p1 p2
      generalize wr.alloc (.cells #[.int .i64 x1, .int .u64 x2] 41) = w2 at *
      generalize wr.heap.size = bw at hbw ⊢
      have HB2 := Lib.hid (HB.out.nw hn)
      have HM2 := Lib.hid (HM.out.nw hn)
      have hcb : w2.cell? ⟨bx, 0, none⟩ = some (.pointer (some ⟨r, 0, none⟩)) := HB2.out.cell rfl
      have HPU := Lib.hid (push_any r d g area (L ++ storeL p (l.take k)) a' (by rw [List.length_append, storeL_len, List.length_take]; omega) p (.store x1 x2) (.func (.func 87) #[] #[.pointer (some ⟨bx, 0, none⟩), .pointer (some ⟨bw, 0, none⟩)]) w2 HM2.out.rr ⟨bx, bw, rfl, HB2.out, hbw⟩)
      clear hbw hn HB HM
      go_wp2_with fail
      refine HPU.out.mono ?_
      rintro e w3 ⟨⟨u, rfl⟩, a3, hm3⟩
      have HB3 := Lib.hid (hm3.u.blk HB2.out (HM2.out.rr.not_own HB2.out.tag (by decide) (by decide)))
      have HM3 := Lib.hid (HM2.out.then hm3)
      clear hm3 hcb
      go_wp2_with fail
      go_roundw
      case rel => exact ⟨k + 1, by omega, by go_num, HB3.out, a3, by rw [HST.out, ← List.append_assoc]; exact HM3.out⟩
      case measure => simp [intOf]; omega
    · obtain rfl : k = n := by omega
      rw [List.take_of_length_le (by rw [HL.out]; exact Nat.le_refl _)] at HM
      go_wp2_with fail
      go_end0
      exact ⟨⟨_, rfl⟩, a', HM.out⟩

end Go.Proofs.Ytkopfnldgnkkoaa

/-
  RUNS: the flushes of the lines of some writes, and a fence.
-/
namespace Go.Proofs.Ytkopfnldgnkkoaa
open Go.RowKit Go.Shelf
set_option linter.unusedVariables false

theorem info_int : (Try.prog.info? 3).map (fun i => (i.zero, i.size, i.bytes)) = some (some (.int .i64 0), 1, 8) := by kernel_rfl
theorem own_upo {O : Nat → Prop} {W W' : World} {base n : Nat} {e : TypeId} {sz : Nat} {v : Value} {xs : List Value} (h : W.ownsRow base e sz v n xs) (k : UpO O W W') (hO : ∀ g, Tag W g e → ¬ O g) : W'.ownsRow base e sz v n xs := by
  refine ⟨h.1, ?_⟩
  rcases h.2 with h2 | ⟨g, cap, cur, hv, hg, hh, r⟩
  · exact .inl h2
  · exact .inr ⟨g, cap, cur, hv, hg, k.blk hh (hO g ⟨cur, hh⟩), r⟩
/-- What is of another kind than a row that grows stays. -/
theorem grown_blk {w w' : World} {base n : Nat} {v : Value} {e t : TypeId} {sz : Nat} {xs : List Value} {k : Nat} {cs : Array Value} (h : Blk w k cs t) (hg : w.grownBy w' v.ownBlock) (hown : w.ownsRow base e sz v n xs) (ht : t ≠ e) : Blk w' k cs t := by
  refine (hg.block k h.lt (fun ej => ?_)).trans h
  rcases hown.2 with ⟨rfl, _⟩ | ⟨g, cap, cur, rfl, hbg, hh, _⟩
  · simp [Value.ownBlock] at ej
  · obtain rfl : g = k := by simpa [Value.ownBlock] using ej.symm
    exact Tag.ne h.tag ⟨cur, hh⟩ ht rfl
/-- The lines of writes; the flushes of lines. -/
def lineL (l : List Wr) : List Int := l.map fun x => x.1 / 8
def flushL9 (p : Int) (zs : List Int) : List St := zs.map fun z => ⟨p, .flush z⟩
theorem flushL9_len (p : Int) (zs : List Int) : (flushL9 p zs).length = zs.length := by simp [flushL9]
theorem flushL9_take {p : Int} {zs : List Int} {k : Nat} (h : k < zs.length) : flushL9 p (zs.take (k + 1)) = flushL9 p (zs.take k) ++ [⟨p, .flush zs[k]⟩] := by
  unfold flushL9
  rw [List.take_succ_eq_append_getElem h, List.map_append]; rfl
def settleL (p : Int) (l : List Wr) : List St := flushL9 p (linesOf (lineL l)) ++ [⟨p, .fence⟩]
theorem lineL_take {l : List Wr} {k : Nat} (h : k < l.length) : lineL (l.take (k + 1)) = lineL (l.take k) ++ [l[k].1 / 8] := by
  unfold lineL
  rw [List.take_succ_eq_append_getElem h, List.map_append]; rfl
theorem lineL_len (l : List Wr) : (lineL l).length = l.length := by simp [lineL]

set_option maxRecDepth 100000 in
set_option maxHeartbeats 4000000 in
theorem settles_any (r d : Nat) (g : G) (area : Int) (L : List St) (a : Option Addr) (p : Int) (la : Option Addr) (n lc : Nat) (l : List Wr) (hl : l.length = n) (hL : L.length + n + 1 ≤ 100000) (hx : ∀ x ∈ l, 0 ≤ x.1 ∧ x.1 < 65536) (w : World) (h : RunAt w r d g area L a)
    (hP : ∀ W', UpO (OwnR9 r a) w W' → Pairs .i64 .u64 W'.heap.size W' la l) :
    Calls Try.prog 72 #[.pointer (some ⟨r, 0, none⟩), .int .u8 p, .slice la n lc] w (fun e w' => (∃ u, e = .returned u) ∧ ∃ a', RunM w r d g area a (L ++ settleL p l) a' w') := by
  obtain ⟨i0, hi, hz0, hz1, hz2⟩ := info_parts8 info_int
  have HL := Lib.hid hl
  have HP := Lib.hid hP
  have HX := Lib.hid hx
  have hN0 := (Nw.refl (w := w)).alloc (.cells #[.pointer (some ⟨r, 0, none⟩)] 32)
  have HR := Lib.hid h
  have hb := Blk.new w #[.pointer (some ⟨r, 0, none⟩)] 32
  clear h hl hP hx
  go_enter Try.func72, Try.ntmps72
  go_upto_region 1 with fail
  generalize w.alloc (.cells #[.pointer (some ⟨r, 0, none⟩)] 32) = w0 at *
  have HB := Lib.hid hb
  have HN0 := Lib.hid hN0
  clear hb hN0
  generalize hbx : w.heap.size = bx at HB ⊢
  have HBX := Lib.hid hbx
  clear hbx
  go_wp2_with fail
  go_loopw [13, 6] (fun i v wr => ∃ k : Nat, k ≤ n ∧ i = .int .i64 k ∧ Blk wr bx #[.pointer (some ⟨r, 0, none⟩)] 32 ∧ Nw w wr ∧ wr.ownsRow w.heap.size 3 1 v k ((lineL (l.take k)).map (.int .i64))) (fun i _ _ => n - (intOf i).toNat)
  case atStart => exact ⟨0, Nat.zero_le _, rfl, HB.out, HN0.out, rfl, .inl ⟨rfl, rfl⟩⟩
  case round =>
    clear HB HN0
    obtain ⟨k, hk, rfl, hb, hn, how⟩ := hrel
    by_cases hlt : k < n
    · obtain ⟨pb, po, rfl, p1, p2⟩ := Pairs.at (HP.out wr (.of_nw hn)) (j := k) (by rw [HL.out]; exact hlt)
      have HST := Lib.hid (lineL_take (l := l) (k := k) (by rw [HL.out]; exact hlt))
      obtain ⟨hx0, hx1⟩ := HX.out _ (List.getElem_mem (l := l) (n := k) (by rw [HL.out]; exact hlt))
      obtain ⟨x1, hx1'⟩ : ∃ x, (l[k]'(by rw [HL.out]; exact hlt)).1 = x := ⟨_, rfl⟩
      obtain ⟨x2, hx2'⟩ : ∃ x, (l[k]'(by rw [HL.out]; exact hlt)).2 = x := ⟨_, rfl⟩
      rw [hx1'] at p1 HST hx0 hx1
      rw [hx2'] at p2
      clear hx1' hx2'
      have HB := Lib.hid hb
      have HN := Lib.hid hn
      have HOW := Lib.hid how
      clear hb hn how
      go_upto_region 5 with fail
      have hbw := Blk.new wr #[.int .i64 x1, .int .u64 x2] 41
      have hn := (Nw.refl (w := wr)).alloc (.cells #[.int .i64 x1, .int .u64 x2] 41)
      clear p1 p2
      generalize wr.alloc (.cells #[.int .i64 x1, .int .u64 x2] 41) = w2 at *
      generalize wr.heap.size = bw at hbw ⊢
      have HB2 := Lib.hid (HB.out.nw hn)
      have HN2 := Lib.hid (HN.out.trans hn)
      have how2 := own_below hn.b HOW.out
      have hs2 := HN2.out.b.size
      have hc0 : w2.cell? ⟨bw, 0, none⟩ = some (.int .i64 x1) := hbw.cell rfl
      clear hn hbw HB HN HOW
      go_wp2_with (first | (at_builtin; go_loud (refine wpList_append_ints _ rfl (.tmp 17) (.tmp 21) 42 rfl w.heap.size 3 i0 (.int .i64 0) 8 Try.underlying42 hi hz0 hz1 hz2 rfl _ _ _ rfl (how2.alloc _) _ 1 1 .i64 [x1 / 8] _ rfl rfl (Ints.one _ _ _ _) (by unfold maxLen; omega) (by omega) (by simp; omega) ?_); intro v3 w3 hown3 hgrow3; have hb3 : Below w.heap.size w w3 := Below.grownRow (HN2.out.b.alloc hs2 _) hgrow3 (by simp; omega) (how2.alloc _) (Nat.le_refl _); have HB3 := Lib.hid (show Blk w3 bx _ _ from grown_blk (HB2.out.alloc _) hgrow3 (how2.alloc _) (by decide)); clear hgrow3 hc0; rw [← List.map_append, ← HST.out] at hown3; have HO3 := Lib.hid hown3; clear hown3) | fail)
      go_roundw
      case rel => exact ⟨k + 1, by omega, by go_num, HB3.out, ⟨hb3⟩, HO3.out⟩
      case measure => simp [intOf]; omega
    · obtain rfl : k = n := by omega
      rw [List.take_of_length_le (by rw [HL.out]; exact Nat.le_refl _)] at how
      have HB := Lib.hid hb
      have HN := Lib.hid hn
      have HOW := Lib.hid how
      clear hb hn how
      go_wp2_with fail
      have hle1 := HN.out.b.size
      refine (sort_own wr HOW.out (by omega)).mono ?_
      rintro e w2 ⟨rfl, ho2, hg2⟩
      have HB2 := Lib.hid (grown_blk HB.out hg2 HOW.out (by decide))
      have HN2 : Hid (Nw w w2) := ⟨Below.grownRow HN.out.b hg2 hle1 HOW.out (Nat.le_refl _)⟩
      have hle2 := HN2.out.b.size
      clear hg2 HB HN HOW
      have HOW2 := Lib.hid ho2
      clear ho2
      go_wp2_with fail
      refine (compact_own w2 HOW2.out (by omega)).mono ?_
      rintro e w3 ⟨v3, rfl, ho3, hg3⟩
      have HB3 := Lib.hid (grown_blk HB2.out hg3 HOW2.out (by decide))
      have HN3 : Hid (Nw w w3) := ⟨Below.grownRow HN2.out.b hg3 hle2 HOW2.out (Nat.le_refl _)⟩
      clear hg3 HB2 HN2 HOW2
      have hlz : ∀ z ∈ lineL l, 0 ≤ z ∧ z < 8192 := by
        intro z hz
        obtain ⟨x, hx, rfl⟩ := List.mem_map.1 hz
        have := HX.out x hx
        omega
      have hm1 := compact_le (sortL (lineL l))
      rw [sortL_length, lineL_len, HL.out] at hm1
      rw [compact_sort hlz] at ho3 hm1
      have HSE : Hid (settleL p l = flushL9 p (linesOf (lineL l)) ++ [⟨p, .fence⟩]) := rfl
      obtain ⟨zs, hzs⟩ : ∃ zs, linesOf (lineL l) = zs := ⟨_, rfl⟩
      rw [hzs] at ho3 hm1 HSE
      clear hlz hzs
      obtain ⟨m, hm⟩ : ∃ m, zs.length = m := ⟨_, rfl⟩
      rw [hm] at ho3 hm1
      have HM := Lib.hid hm
      clear hm
      obtain ⟨a3, c3, rfl⟩ := own_slice ho3
      have HO3 := Lib.hid ho3
      have HM0 := Lib.hid ((RunM.refl HR.out).nw HN3.out)
      clear ho3
      go_wp2_with fail
      go_loopw [29] (fun v wr => ∃ j : Nat, j ≤ m ∧ v = .int .i64 j ∧ Blk wr bx #[.pointer (some ⟨r, 0, none⟩)] 32 ∧ wr.ownsRow w.heap.size 3 1 (.slice a3 m c3) m (zs.map (.int .i64)) ∧ ∃ a', RunM w r d g area a (L ++ flushL9 p (zs.take j)) a' wr) (fun v _ => m - (intOf v).toNat)
      case atStart => exact ⟨0, Nat.zero_le _, rfl, HB3.out, HO3.out, a, by simpa [flushL9] using HM0.out⟩
      case round =>
        clear HB3 HN3 HO3 HM0
        obtain ⟨j, hj, rfl, hb, how, a', hm⟩ := hrel
        have HB := Lib.hid hb
        have HOW := Lib.hid how
        have HRM := Lib.hid hm
        clear hb how hm
        by_cases hlt2 : j < m
        · obtain ⟨a4, c4, he4, _, hI4⟩ := Ints.of_owns HOW.out
          simp only [Value.slice.injEq, true_and] at he4
          obtain ⟨rfl, -, rfl⟩ := he4
          obtain ⟨qb, qo, rfl, _, hc⟩ := hI4.at (j := j) (by rw [HM.out]; exact hlt2)
          have HST := Lib.hid (flushL9_take (p := p) (zs := zs) (k := j) (by rw [HM.out]; exact hlt2))
          obtain ⟨z, hz⟩ : ∃ z, zs[j]'(by rw [HM.out]; exact hlt2) = z := ⟨_, rfl⟩
          rw [hz] at hc HST
          clear hz hI4
          go_upto_region 11 with fail
          have hbw := Blk.new wr #[.int .i64 z] 3
          have hn := (Nw.refl (w := wr)).alloc (.cells #[.int .i64 z] 3)
          clear hc
          generalize wr.alloc (.cells #[.int .i64 z] 3) = w4 at *
          generalize wr.heap.size = bl at hbw ⊢
          have HB4 := Lib.hid (HB.out.nw hn)
          have HRM4 := Lib.hid (HRM.out.nw hn)
          have HOW4 := Lib.hid (own_below hn.b HOW.out)
          have hcb : w4.cell? ⟨bx, 0, none⟩ = some (.pointer (some ⟨r, 0, none⟩)) := HB4.out.cell rfl
          have HPU := Lib.hid (push_any r d g area (L ++ flushL9 p (zs.take j)) a' (by rw [List.length_append, flushL9_len, List.length_take]; omega) p (.flush z) (.func (.func 90) #[] #[.pointer (some ⟨bx, 0, none⟩), .pointer (some ⟨bl, 0, none⟩)]) w4 HRM4.out.rr ⟨bx, bl, rfl, HB4.out, hbw⟩)
          clear hbw hn HB HRM HOW
          go_wp2_with fail
          refine HPU.out.mono ?_
          rintro e w5 ⟨⟨u, rfl⟩, a5, hm5⟩
          have HB5 := Lib.hid (hm5.u.blk HB4.out (HRM4.out.rr.not_own HB4.out.tag (by decide) (by decide)))
          have HOW5 := Lib.hid (own_upo HOW4.out hm5.u (fun g hg => HRM4.out.rr.not_own hg (by decide) (by decide)))
          have HRM5 := Lib.hid (HRM4.out.then hm5)
          clear hm5 hcb
          go_wp2_with fail
          go_roundw
          case rel => exact ⟨j + 1, by omega, by go_num, HB5.out, HOW5.out, a5, by rw [HST.out, ← List.append_assoc]; exact HRM5.out⟩
          case measure => simp [intOf]; omega
        · obtain rfl : j = m := by omega
          rw [List.take_of_length_le (by rw [HM.out]; exact Nat.le_refl _)] at HRM
          have hcb : wr.cell? ⟨bx, 0, none⟩ = some (.pointer (some ⟨r, 0, none⟩)) := HB.out.cell rfl
          obtain ⟨cc, hkk, vs', hs', hq'⟩ := HRM.out.rr.k
          have hcr : wr.cell? ⟨r, 0, none⟩ = some (.pointer (some ⟨d, 0, none⟩)) := hkk.cell rfl
          have hlen9 : (L ++ flushL9 p zs).length ≤ 100000 := by rw [List.length_append, flushL9_len, HM.out]; omega
          have HPU := Lib.hid (fun (W : World) (h : Nw wr W) => push_any r d g area (L ++ flushL9 p zs) a' hlen9 p .fence (.func (.func 92) #[.pointer (some ⟨d, 0, none⟩)] #[]) W (HRM.out.rr.nw h) rfl)
          have HK9 : Hid (∀ (W5 : World) (a5 : Option Addr) (L5 : List St), RunM wr.drew r d g area a' L5 a5 W5 → W5.cell? ⟨bx, 0, none⟩ = some (.pointer (some ⟨r, 0, none⟩)) ∧ W5.cell? ⟨r, 0, none⟩ = some (.pointer (some ⟨d, 0, none⟩))) := by
            intro W5 a5 L5 hm5
            refine ⟨(hm5.u.blk (HB.out.nw Nw.refl.drew) ((HRM.out.rr.nw Nw.refl.drew).not_own (HB.out.nw Nw.refl.drew).tag (by decide) (by decide))).cell rfl, ?_⟩
            obtain ⟨c9, k9, _⟩ := hm5.rr.k
            exact k9.cell rfl
          clear hkk hs' hq' hlen9
          go_wp2_with fail
          go_region_held3 (fun w' => w'.cell? ⟨bx, 0, none⟩ = some (.pointer (some ⟨r, 0, none⟩)) ∧ w'.cell? ⟨r, 0, none⟩ = some (.pointer (some ⟨d, 0, none⟩)))
            (first | (exact ⟨hcb, hcr⟩) | (exact hk9))
            ((first | (go_at_call 86; refine (HPU.out _ Nw.refl.drew).mono ?_; rintro e w5 ⟨⟨u, rfl⟩, a5, hm5⟩; have hk9 := HK9.out _ _ _ hm5)))
          go_end0
          exact ⟨⟨_, rfl⟩, a5, by rw [HSE.out, ← List.append_assoc]; exact (HRM.out.nw Nw.refl.drew).then hm5⟩

end Go.Proofs.Ytkopfnldgnkkoaa

/-
  RUNS: both, mark, apply.
-/
namespace Go.Proofs.Ytkopfnldgnkkoaa
open Go.RowKit Go.Shelf
set_option linter.unusedVariables false

def bothL (p q : Int) (l : List Wr) : List St := storeL p l ++ settleL q l
def markL (p : Int) (area v : Int) : List St := bothL p p [(area, v)]
def applyL (area : Int) (l : List Wr) : List St := bothL 4 5 l ++ markL 6 area 0
theorem linesOf_le (zs : List Int) : (linesOf zs).length ≤ 8192 := by
  unfold linesOf
  rw [List.length_map]
  exact Nat.le_trans (List.length_filter_le _ _) (by simp)
theorem settleL_len (p : Int) (l : List Wr) : (settleL p l).length ≤ 8193 := by
  unfold settleL
  rw [List.length_append, flushL9_len]
  have := linesOf_le (lineL l)
  simp only [List.length_cons, List.length_nil]
  omega
theorem bothL_len (p q : Int) (l : List Wr) : (bothL p q l).length ≤ l.length + 8193 := by
  unfold bothL
  rw [List.length_append, storeL_len]
  have := settleL_len q l
  omega
theorem markL_len (p area v : Int) : (markL p area v).length ≤ 8194 := by
  have h := bothL_len p p [(area, v)]
  have e : ([(area, v)] : List Wr).length = 1 := rfl
  rw [e] at h
  unfold markL
  generalize (bothL p p [(area, v)]).length = m at h ⊢
  omega

set_option maxRecDepth 100000 in
set_option maxHeartbeats 2000000 in
theorem both_any (r d : Nat) (g : G) (area : Int) (L : List St) (a : Option Addr) (p q : Int) (la : Option Addr) (n lc : Nat) (l : List Wr) (hl : l.length = n) (hL : L.length + n + n + 1 ≤ 100000) (hx : ∀ x ∈ l, 0 ≤ x.1 ∧ x.1 < 65536) (w : World) (h : RunAt w r d g area L a)
    (hP : ∀ W', UpO (OwnR9 r a) w W' → Pairs .i64 .u64 W'.heap.size W' la l) :
    Calls Try.prog 44 #[.pointer (some ⟨r, 0, none⟩), .int .u8 p, .int .u8 q, .slice la n lc] w (fun e w' => (∃ u, e = .returned u) ∧ ∃ a', RunM w r d g area a (L ++ bothL p q l) a' w') := by
  have HL := Lib.hid hl
  have HST := Lib.hid (stores_any r d g area L a p la n lc l hl (by omega) w h hP)
  have hlen : (L ++ storeL p l).length + n + 1 ≤ 100000 := by
    have e : (L ++ storeL p l).length = L.length + n := by rw [List.length_append, storeL_len, hl]
    generalize (L ++ storeL p l).length = m at e ⊢
    omega
  have HSE := Lib.hid (fun (w1 : World) (a1 : Option Addr) (hm : RunM w r d g area a (L ++ storeL p l) a1 w1) => settles_any r d g area (L ++ storeL p l) a1 q la n lc l hl hlen hx w1 hm.rr (fun W' k => hP W' (hm.u.trans k hm.o)))
  clear hP hx hl h
  go_enter Try.func44, Try.ntmps44
  go_wp2_with fail
  refine HST.out.mono ?_
  rintro e w1 ⟨⟨u, rfl⟩, a1, hm1⟩
  have HM := Lib.hid hm1
  clear hm1
  go_wp2_with fail
  refine (HSE.out w1 a1 HM.out).mono ?_
  rintro e w2 ⟨⟨u2, rfl⟩, a2, hm2⟩
  have HM2 := Lib.hid hm2
  clear hm2
  go_wp2_with fail
  go_end0
  exact ⟨⟨_, rfl⟩, a2, by unfold bothL; rw [← List.append_assoc]; exact HM.out.then HM2.out⟩

set_option maxRecDepth 100000 in
set_option maxHeartbeats 2000000 in
theorem mark_any' (r d : Nat) (g : G) (area : Int) (L : List St) (a : Option Addr) (p v : Int) (hL : L.length ≤ 90000) (h0 : 0 ≤ area) (h1 : area < 65536) (w : World) (h : RunAt w r d g area L a) :
    Calls Try.prog 45 #[.pointer (some ⟨r, 0, none⟩), .int .u8 p, .int .u64 v] w (fun e w' => (∃ u, e = .returned u) ∧ ∃ a', RunM w r d g area a (L ++ markL p area v) a' w') := by
  have HR := Lib.hid h
  obtain ⟨c, hk, _⟩ := h.k
  have hc4 : w.cell? ⟨r, 4, none⟩ = some (.int .i64 area) := hk.cell rfl
  have hn := (Nw.refl (w := w)).alloc (.cells #[.int .i64 area, .int .u64 v] 41)
  have hb := Blk.new w #[.int .i64 area, .int .u64 v] 41
  have HBO := Lib.hid (both_any r d g area L a p p (some ⟨w.heap.size, 0, none⟩) 1 1 [(area, v)] rfl (by omega) (by intro x hx; rw [List.mem_singleton.1 hx]; exact ⟨h0, h1⟩) _ (h.nw hn) (fun W' k => by
    have hb' := k.blk hb ((h.nw hn).not_own hb.tag (by decide) (by decide))
    refine .inr ⟨_, 0, rfl, hb'.lt, fun j hj => ?_⟩
    simp at hj
    subst hj
    exact ⟨hb'.cell rfl, hb'.cell rfl⟩))
  clear h hk hb h0 h1
  go_enter Try.func45, Try.ntmps45
  go_wp2_with fail
  refine HBO.out.mono ?_
  rintro e w2 ⟨⟨u2, rfl⟩, a2, hm2⟩
  have HM2 := Lib.hid hm2
  clear hm2
  go_wp2_with fail
  go_end0
  exact ⟨⟨_, rfl⟩, a2, .pre hn HM2.out⟩

set_option maxRecDepth 100000 in
set_option maxHeartbeats 2000000 in
theorem apply_any (r d : Nat) (g : G) (area : Int) (L : List St) (a : Option Addr) (la : Option Addr) (n lc : Nat) (l : List Wr) (hl : l.length = n) (hL : L.length + n + n ≤ 50000) (hx : ∀ x ∈ l, 0 ≤ x.1 ∧ x.1 < 65536) (h0 : 0 ≤ area) (h1 : area < 65536) (w : World) (h : RunAt w r d g area L a)
    (hP : ∀ W', UpO (OwnR9 r a) w W' → Pairs .i64 .u64 W'.heap.size W' la l) :
    Calls Try.prog 47 #[.pointer (some ⟨r, 0, none⟩), .slice la n lc] w (fun e w' => (∃ u, e = .returned u) ∧ ∃ a', RunM w r d g area a (L ++ applyL area l) a' w') := by
  have HBO := Lib.hid (both_any r d g area L a 4 5 la n lc l hl (by omega) hx w h hP)
  have hlen : (L ++ bothL 4 5 l).length ≤ 90000 := by rw [List.length_append]; have := bothL_len 4 5 l; omega
  have HMK := Lib.hid (fun (w1 : World) (a1 : Option Addr) (hm : RunM w r d g area a (L ++ bothL 4 5 l) a1 w1) => mark_any' r d g area (L ++ bothL 4 5 l) a1 6 0 hlen h0 h1 w1 hm.rr)
  clear hP hx hl h h0 h1 hlen
  go_enter Try.func47, Try.ntmps47
  go_wp2_with fail
  refine HBO.out.mono ?_
  rintro e w1 ⟨⟨u, rfl⟩, a1, hm1⟩
  have HM := Lib.hid hm1
  clear hm1
  go_wp2_with fail
  refine (HMK.out w1 a1 HM.out).mono ?_
  rintro e w2 ⟨⟨u2, rfl⟩, a2, hm2⟩
  have HM2 := Lib.hid hm2
  clear hm2
  go_wp2_with fail
  go_end0
  exact ⟨⟨_, rfl⟩, a2, by unfold applyL; rw [← List.append_assoc]; exact HM.out.then HM2.out⟩

end Go.Proofs.Ytkopfnldgnkkoaa
