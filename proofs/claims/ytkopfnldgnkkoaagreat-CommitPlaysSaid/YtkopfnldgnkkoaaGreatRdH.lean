import Derived.Maps.OwnOps
import Derived.Maps.Views
import Derived.Carry
import Derived.Test.YtkopfnldgnkkoaaGreatRdC
import Derived.Laws.StructEq

/-
  THE WALK OF record.May (a map of the words that came).
-/
namespace Go.Proofs.YtkopfnldgnkkoaaGreat
open Go.RowKit Go.Shelf Go.Maps
set_option linter.unusedVariables false

/-- The map behind k rounds. -/
def cameD (l : List Wr) : Nat → DataW Unit
  | 0 => .map []
  | k + 1 => (cameD l k).put (.int .i64 (atW l k)) (.lit (.int .i64 1))
theorem cameD_map (l : List Wr) : ∀ k, IsMap (cameD l k)
  | 0 => isMap_empty
  | k + 1 => (cameD_map l k).put _ _
theorem cameD_at (l : List Wr) (x : Int) : ∀ k, (cameD l k).atKey (.int .i64 x) (.lit (.int .i64 0)) = .lit (.int .i64 (if (List.range k).any (fun j => atW l j == x) = true then 1 else 0))
  | 0 => rfl
  | k + 1 => by
    show ((cameD l k).put _ _).atKey _ _ = _
    by_cases h : atW l k = x
    · rw [h, atKey_put_same (cameD_map l k) (by trivial)]
      rw [if_pos (by rw [List.range_succ]; simp [h])]
    · rw [atKey_put_other (by intro hh; cases hh; exact h rfl), cameD_at l x k]
      congr 2
      rw [List.range_succ]; simp [h]
theorem apart_eq (l : List Wr) (i : Nat) : apart l i = !((List.range i).any (fun j => atW l j == atW l i)) := by
  rw [apart, List.all_eq_not_any_not]; simp [bne]
theorem Box.kept {W W' : World} {b c : Nat} {g : G} (h : Box W b g) (k : W.grownBy W' (some c)) (hne : b ≠ c) : Box W' b g :=
  have hb := (cell_lt h.c0).1
  have hh : W'.heap[b]? = W.heap[b]? := k.block b hb (by simpa using hne)
  ⟨(World.cell?_of_block (w := W) (w' := W') (a := ⟨b, 0, none⟩) hh).trans h.c0, (World.cell?_of_block (w := W) (w' := W') (a := ⟨b, 1, none⟩) hh).trans h.c1, (World.cell?_of_block (w := W) (w' := W') (a := ⟨b, 2, none⟩) hh).trans h.c2⟩
theorem grown_at {w w' : World} (h : At w w') : w.grownBy w' none := ⟨h.b.os, h.b.tape, h.b.output, h.b.size, fun k hk _ => h.b.block k hk⟩

theorem keyed_int : Keyed Tryz.prog 3 := int_keyed Tryz.underlying3
theorem zero_int (w : World) : (zeroValue 3).run Tryz.prog w = .ok (.int .i64 0) w := by kernel_rfl

set_option maxRecDepth 100000 in
set_option maxHeartbeats 4000000 in
theorem rcmay_any (g : G) (a : Option Addr) (cap n₀ : Nat) (l : List Wr) (hu : ∀ x ∈ l, (Lit.int .i64 x.1).wf = true) (w : World) (hn₀ : n₀ ≤ w.heap.size) (hI : Pairs .i64 .u64 n₀ w a l) (hreach : l.length ≤ 9223372036854775807) :
    Calls Tryz.prog 53 #[gV g, .slice a l.length cap] w fun e w' => e = .returned (.bool (mayW g l)) ∧ Nw w w' := by
  obtain ⟨n, hn⟩ : ∃ n, l.length = n := ⟨_, rfl⟩
  have HN := Lib.hid hn
  rw [hn] at hreach ⊢
  have HU := Lib.hid hu
  clear hu
  have B0 := Box.new w g 26
  have b0 := B0.c0
  have b1 := B0.c1
  have b2 := B0.c2
  have hmm := @run_makeMap Tryz.prog
  obtain ⟨m, hm⟩ : ∃ m, mayB g = m := ⟨_, rfl⟩
  have HM := Lib.hid hm
  unfold gV
  go_enter Tryz.func53, Tryz.ntmps53
  go_wp2_with fail
  refine (may_any g At.refl).mono ?_
  rintro e w1 ⟨rfl, h1⟩
  rw [hm]
  have h01 := (At.refl.alloc _).trans h1
  have B1 := B0.at h1
  clear b0 b1 b2 B0 h1 hm
  cases m with
  | false =>
    go_wp2_with fail
    go_ret
    exact ⟨by unfold mayW; rw [HM.out]; rfl, ⟨h01.b⟩⟩
  | true =>
  by_cases h96 : 96 < n
  · go_wp2_with fail
    go_ret
    exact ⟨by unfold mayW; rw [HM.out, HN.out]; simp; omega, ⟨h01.b⟩⟩
  have HW := Lib.hid (show mayW g l = okTo g l n from by unfold mayW; rw [HM.out, HN.out]; simp; omega)
  go_wp2_with fail
  obtain ⟨M, hM⟩ : ∃ M, w1.heap.size = M := ⟨_, rfl⟩
  rw [hM]
  have hown : (w1.alloc (.map #[] 0)).ownsMap Tryz.prog 3 (plainElem Tryz.prog 3) M 0 (cameD l 0) := by rw [← hM]; exact World.ownsMap_made _ _ _ _
  have h02 := h01.alloc (.map #[] 0)
  have B2 := B1.alloc (.map #[] 0)
  have hwM : w.heap.size < M := by have := (cell_lt B1.c0).1; dsimp only at this; omega
  clear h01 B1
  generalize hW2 : w1.alloc (.map #[] 0) = w2 at *
  clear hW2 hM
  go_loopw [23] (fun i wr => ∃ k : Nat, k ≤ n ∧ i = .int .i64 k ∧ okTo g l k = true ∧ Box wr w.heap.size g ∧ wr.ownsMap Tryz.prog 3 (plainElem Tryz.prog 3) M k (cameD l k) ∧ At w wr) (fun i _ => n - (intOf i).toNat)
  case atStart => exact ⟨0, Nat.zero_le _, rfl, rfl, B2, hown, h02⟩
  case round =>
    obtain ⟨k, hk, rfl, hok, BR, hownr, hr⟩ := hrel
    clear hown h02 B2
    by_cases hlt : k < n
    · rcases hI with e | ⟨b, off, rfl, hb, hcs⟩
      · rw [e] at hn; simp at hn; omega
      have hlk : k < l.length := by omega
      obtain ⟨c1, c2⟩ := hcs k hlk
      obtain ⟨x, hx⟩ : ∃ x, (l[k]?.getD (0, 0)) = x := ⟨_, rfl⟩
      have hxl : l[k] = x := by rw [← hx]; simp [hlk]
      have hwf := HU.out x (by rw [← hxl]; exact List.getElem_mem _)
      have HA := Lib.hid (show atW l k = x.1 from by unfold atW; rw [hx])
      rw [hx] at c1 c2
      have c1r : wr.cell? ⟨b, off + k * 2, none⟩ = some (.int .i64 x.1) := (hr.b.cell (p := ⟨b, off + k * 2, none⟩) (Nat.lt_of_lt_of_le hb hn₀)).trans c1
      have c2r : wr.cell? ⟨b, off + k * 2 + 1, none⟩ = some (.int .u64 x.2) := (hr.b.cell (p := ⟨b, off + k * 2 + 1, none⟩) (Nat.lt_of_lt_of_le hb hn₀)).trans c2
      obtain ⟨x1, x2⟩ := x
      dsimp only at c1r c2r hwf HA
      have hx2 : x1 ≤ 9223372036854775807 := by have := hwf; simp [Lit.wf] at this; omega
      have BA := BR.alloc (.cells #[.int .i64 x1, .int .u64 x2] 91)
      have b0 := BA.c0
      have b1 := BA.c1
      have b2 := BA.c2
      have hra := hr.alloc (.cells #[.int .i64 x1, .int .u64 x2] 91)
      have howna := hownr.alloc (.cells #[.int .i64 x1, .int .u64 x2] 91)
      have HOK := Lib.hid hok
      clear hcs c1 c2 hx hxl hok
      go_wp2_with fail
      refine (where_any g x1 hx2 At.refl).mono ?_
      rintro e w3 ⟨rfl, h3⟩
      unfold four
      obtain ⟨kd, hkd⟩ : ∃ kd, (whereV g x1).1 = kd := ⟨_, rfl⟩
      rw [hkd]
      have HKD := Lib.hid hkd
      have B3 := BA.at h3
      have hr3 := hra.trans h3
      have hown3 := howna.kept (grown_at h3) (by simp)
      have ce : w3.cell? ⟨wr.heap.size, 0, none⟩ = some (.int .i64 x1) := (h3.b.cell (p := ⟨wr.heap.size, 0, none⟩) (by simp)).trans (by simp)
      clear h3 hkd b0 b1 b2 BA hra howna hownr hr BR c1r c2r
      go_wp2_with fail
      refine (writable_any kd w3).mono ?_
      rintro e w4 ⟨rfl, rfl⟩
      obtain ⟨ok, hkok⟩ : ∃ ok, kindOk kd = ok := ⟨_, rfl⟩
      rw [hkok]
      have HKO := Lib.hid hkok
      clear hkok
      cases ok with
      | false =>
        go_wp2_with fail
        go_ret
        exact ⟨by rw [HW.out, okTo_false hlt (by unfold okAt; rw [HA.out, HKD.out, HKO.out]; rfl)]; rfl, ⟨hr3.b⟩⟩
      | true =>
        have hkey : keyOf Tryz.prog 3 (.int .i64 x1) = some (.int .i64 x1) := keyOf_int_mk Tryz.underlying3 hwf
        obtain ⟨c, hrun, hat, hwc⟩ := hown3.lookup_int keyed_int Tryz.underlying160 Tryz.underlying3 (zero_int _) hkey
        rw [cameD_at] at hat
        simp only [DataW.lit.injEq, Lit.int.injEq, true_and] at hat
        have hap := apart_eq l k
        rw [HA.out] at hap
        by_cases hany : (List.range k).any (fun j => atW l j == x1) = true
        · rw [if_pos hany] at hat
          rw [hany] at hap
          subst hat
          have HAP := Lib.hid hap
          clear hap hany
          go_wp2_with fail
          go_ret
          exact ⟨by rw [HW.out, okTo_false hlt (by unfold okAt; rw [HAP.out]; simp)]; rfl, ⟨hr3.b⟩⟩
        · rw [if_neg hany] at hat
          rw [show ((List.range k).any (fun j => atW l j == x1)) = false from by simpa using hany] at hap
          subst hat
          have HAP := Lib.hid hap
          clear hap hany
          go_wp2_with (at_mapUpdate; refine wpList_mapUpdate_own _ rfl _ _ _ 160 rfl 3 3 keyed_int Tryz.underlying160 _ M k _ rfl hown3 (by unfold maxLen; omega) _ _ _ rfl rfl hkey _ [] (plainElem_int Tryz.underlying3 (show (Lit.int .i64 1).wf = true from rfl)) ?_; intro w5 hown5 hgrow5)
          go_roundw
          case rel => exact ⟨k + 1, by omega, by go_num, by rw [okTo_succ, HOK.out]; unfold okAt; rw [HA.out, HKD.out, HKO.out, HAP.out]; rfl, B3.kept hgrow5 (by omega), by unfold cameD; rw [HA.out]; exact hown5, ⟨hr3.b.grown hgrow5 hr3.b.size (fun j hj => by cases hj; omega)⟩⟩
          case measure => simp [intOf]; omega
    · obtain rfl : k = n := by omega
      have HOK := Lib.hid hok
      clear hok
      go_wp2_with fail
      go_ret
      exact ⟨by rw [HW.out, HOK.out]; rfl, ⟨hr.b⟩⟩

end Go.Proofs.YtkopfnldgnkkoaaGreat

/-
  ROWS OF WRITES; THE WALK OF record.Read.
-/
namespace Go.Proofs.YtkopfnldgnkkoaaGreat
open Go.RowKit Go.Shelf
set_option linter.unusedVariables false

theorem info_wr : (Tryz.prog.info? 91).map (fun i => (i.zero, i.size, i.bytes)) = some (some (.agg #[.int .i64 0, .int .u64 0]), 2, 16) := by kernel_rfl
/-- The cells of writes. -/
def prC (l : List Wr) : List Value := l.flatMap fun x => [.int .i64 x.1, .int .u64 x.2]
theorem prC_snoc (l : List Wr) (x : Wr) : prC (l ++ [x]) = prC l ++ [.int .i64 x.1, .int .u64 x.2] := by simp [prC]
theorem prC_len (l : List Wr) : (prC l).length = l.length * 2 := by
  induction l with
  | nil => rfl
  | cons x l ih => simp [prC] at ih ⊢; omega
theorem prC_at (l : List Wr) (j : Nat) (h : j < l.length) : (prC l)[j * 2]? = some (.int .i64 (l[j]?.getD (0, 0)).1) ∧ (prC l)[j * 2 + 1]? = some (.int .u64 (l[j]?.getD (0, 0)).2) := by
  induction l generalizing j with
  | nil => simp at h
  | cons x l ih =>
    cases j with
    | zero => simp [prC]
    | succ j =>
      have := ih j (by simpa using h)
      simp only [prC, List.flatMap_cons, List.cons_append, List.nil_append] at this ⊢
      rw [show (j + 1) * 2 = j * 2 + 1 + 1 by omega]
      simpa using this
theorem Pairs.of_owns {w : World} {base : Nat} {e : TypeId} {v : Value} {l : List Wr} (h : w.ownsRow base e 2 v l.length (prC l)) :
    ∃ a cap, v = .slice a l.length cap ∧ l.length ≤ cap ∧ Pairs .i64 .u64 w.heap.size w a l := by
  rcases h.2 with ⟨rfl, h0⟩ | ⟨g, cap, cur, rfl, hg, hh, hn, _⟩
  · exact ⟨none, 0, by rw [h0], by omega, .inl (List.length_eq_zero_iff.1 h0)⟩
  · refine ⟨_, cap, rfl, hn, .inr ⟨g, 0, rfl, (Array.getElem?_eq_some_iff.1 hh).1, fun j hj => ?_⟩⟩
    have h1 := h.cellAt (j * 2) (by omega)
    have h2 := h.cellAt (j * 2 + 1) (by omega)
    obtain ⟨e1, e2⟩ := prC_at l j hj
    rw [Nat.zero_add]
    exact ⟨h1.trans e1, h2.trans e2⟩
theorem Pairs.below {k1 k2 : IntKind} {n₀ : Nat} {A B : World} {a : Option Addr} {l : List Wr} (h : Below n₀ A B) : Pairs k1 k2 n₀ A a l → Pairs k1 k2 n₀ B a l
  | .inl e => .inl e
  | .inr ⟨b, off, e, hb, hc⟩ => .inr ⟨b, off, e, hb, fun j hj => ⟨(h.cell (p := ⟨b, off + j * 2, none⟩) hb).trans (hc j hj).1, (h.cell (p := ⟨b, off + j * 2 + 1, none⟩) hb).trans (hc j hj).2⟩⟩
theorem Pairs.mono {k1 k2 : IntKind} {n₀ n₁ : Nat} {A : World} {a : Option Addr} {l : List Wr} (h : n₀ ≤ n₁) : Pairs k1 k2 n₀ A a l → Pairs k1 k2 n₁ A a l
  | .inl e => .inl e
  | .inr ⟨b, off, e, hb, hc⟩ => .inr ⟨b, off, e, Nat.lt_of_lt_of_le hb h, hc⟩
theorem Pairs.nw {k1 k2 : IntKind} {A B : World} {a : Option Addr} {l : List Wr} (h : Nw A B) (hI : Pairs k1 k2 A.heap.size A a l) : Pairs k1 k2 B.heap.size B a l := (hI.below h.b).mono h.b.size

/-- What Read tells. -/
def ReadR (g : G) (ws : List Int) (w : World) (e : Ending) (w' : World) : Prop :=
  ∃ a cap, e = .returned (.tuple #[.slice a (readL g ws).length cap, .int .i64 (readE g ws)]) ∧ (readL g ws).length ≤ cap ∧ Pairs .i64 .u64 w'.heap.size w' a (readL g ws) ∧ Nw w w' ∧ ∀ p, a = some p → w.heap.size ≤ p.block
theorem readR_no {g : G} {ws : List Int} {w w' : World} {v : Value} (h : readOk g ws = false) (hv : v = .tuple #[.slice none 0 0, .int .i64 4]) (hN : Nw w w') : ReadR g ws w (.returned v) w' := by
  have h1 : readL g ws = [] := if_neg (by rw [h]; decide)
  have h2 : readE g ws = 4 := if_neg (by rw [h]; decide)
  exact ⟨none, 0, by rw [h1, h2, hv]; rfl, by rw [h1]; exact Nat.le_refl _, .inl h1, hN, fun p hp => by cases hp⟩
theorem readR_yes {g : G} {ws : List Int} {w w' : World} {v : Value} {n : Nat} {a : Option Addr} {cap : Nat} (h : readOk g ws = true) (hn : readN ws = n) (hv : v = .tuple #[.slice a n cap, .int .i64 0]) (hc : n ≤ cap) (hI : Pairs .i64 .u64 w'.heap.size w' a (pairsN ws n)) (hN : Nw w w') (hF : ∀ p, a = some p → w.heap.size ≤ p.block) : ReadR g ws w (.returned v) w' := by
  have h1 : readL g ws = pairsN ws n := (if_pos h).trans (by rw [hn])
  have h2 : readE g ws = 0 := if_pos h
  have h3 : (readL g ws).length = n := by rw [h1, pairsN_len]
  exact ⟨a, cap, by rw [h3, h2, hv], by rw [h3]; exact hc, by rw [h1]; exact hI, hN, hF⟩
theorem readOk_eq {g : G} {ws : List Int} {n : Nat} (h1 : isR ws) (h2 : sumOf (ws.take (endN ws)) = lastR ws) (hn : readN ws = n) : readOk g ws = (smallTo ws n && mayW g (pairsN ws n)) := by
  unfold readOk; rw [hn]; simp [h1, h2]
theorem pairsN_wf {ws : List Int} {n : Nat} (hu : ∀ x ∈ ws, u64 x) (hl : 2 * n < ws.length) (hs : smallTo ws n = true) : ∀ x ∈ pairsN ws n, (Lit.int .i64 x.1).wf = true := by
  intro x hx
  simp only [pairsN, List.mem_map, List.mem_range] at hx
  obtain ⟨i, hi, rfl⟩ := hx
  have h1 := List.all_eq_true.1 hs i (List.mem_range.2 hi)
  have h2 : u64 (ws[1 + 2 * i]?.getD 0) := by rw [List.getElem?_eq_getElem (by omega)]; exact hu _ (List.getElem_mem _)
  simp only [decide_eq_true_eq] at h1
  have := h2.1
  simp [Lit.wf, IntKind.min, IntKind.max, IntKind.bits, IntKind.signed]; omega


set_option maxRecDepth 100000 in
set_option maxHeartbeats 8000000 in
theorem read_any (g : G) (a : Option Addr) (cap n₀ : Nat) (ws : List Int) (hc : ws.length ≤ cap) (hu : ∀ n ∈ ws, u64 n) (hreach : ws.length * 8 ≤ 140737488351232) (w : World) (hn₀ : n₀ ≤ w.heap.size) (hI : Ints n₀ .u64 w a ws) :
    Calls Tryz.prog 100 #[gV g, .slice a ws.length cap] w (ReadR g ws w) := by
  obtain ⟨i0, hi, hz0, hz1, hz2⟩ := info_parts8 info_wr
  obtain ⟨len, hlen⟩ : ∃ len, ws.length = len := ⟨_, rfl⟩
  have HLEN := Lib.hid hlen
  have HU := Lib.hid hu
  have B0 := Box.new w g 26
  have h00 : At w w := At.refl
  have h01 := h00.alloc (.cells #[.int .i64 g.w, .int .i64 g.i, .int .i64 g.b] 26)
  have hI1 := hI.below (h01.b.mono hn₀)
  have HS := Lib.hid (split_any a cap n₀ ws hc hu hreach _ hI1)
  have HI := Lib.hid hI
  rw [hlen] at hc hreach HS ⊢
  clear hI1
  unfold gV
  by_cases hr : isR ws
  case neg =>
    have HV := Lib.hid (show splitV a cap ws = .tuple #[.slice none 0 0, .int .u64 0, .bool false] from if_neg hr)
    have HO := Lib.hid (show readOk g ws = false from by unfold readOk; simp [hr])
    clear hI hu hr
    go_enter Tryz.func100, Tryz.ntmps100
    go_wp2_with fail
    refine HS.out.mono ?_
    rintro e w' ⟨rfl, m, rfl⟩
    rw [HV.out]
    go_wp2_with fail
    go_ret2
    exact readR_no HO.out rfl ⟨(h01.drewN m).b⟩
  have HV := Lib.hid (show splitV a cap ws = .tuple #[.slice a (endN ws) cap, .int .u64 (lastR ws), .bool true] from if_pos hr)
  obtain ⟨b, off, rfl, hb, hcs⟩ := isR_addr hr hI
  have HBN := Lib.hid (Nat.lt_of_lt_of_le hb hn₀)
  obtain ⟨n, hn⟩ : ∃ n, readN ws = n := ⟨_, rfl⟩
  have hE : endN ws = 1 + 2 * n := by rw [← hn]; rfl
  have hn2 : 1 + 2 * n < len := by have := hr.2.2; unfold readN at hn; rw [hn] at this; omega
  have hn96 : n ≤ 96 := by have := hr.2.1; unfold readN at hn; omega
  obtain ⟨s, hs⟩ : ∃ s, lastR ws = s := ⟨_, rfl⟩
  have HN := Lib.hid hn
  have HE := Lib.hid hE
  have HSS := Lib.hid hs
  have HR := Lib.hid hr
  have HCS := Lib.hid hcs
  rw [hE, hs] at HV
  clear hcs hI hu hn hE hs hr
  go_enter Tryz.func100, Tryz.ntmps100
  go_wp2_with fail
  refine HS.out.mono ?_
  rintro e w' ⟨rfl, m, rfl⟩
  rw [HV.out]
  have hD := h01.drewN m
  have B1 := B0.at (⟨below_drewN (Below.refl _ _) m⟩ : At _ (World.drewN _ m))
  generalize (w.alloc (.cells #[.int .i64 g.w, .int .i64 g.i, .int .i64 g.b] 26)).drewN m = w1 at *
  have hIw1 : Ints w1.heap.size .u64 w1 (some ⟨b, off, none⟩) (ws.take (1 + 2 * n)) := ((HI.out.below (hD.b.mono hn₀)).mono (Nat.le_trans hn₀ hD.b.size)).take _
  clear B0 h01
  go_wp2_with fail
  refine (sum_of_len (some ⟨b, off, none⟩) (1 + 2 * n) cap (ws.take (1 + 2 * n)) (by rw [List.length_take, HLEN.out]; omega) (by omega) w1 hIw1).mono ?_
  rintro e w2 ⟨rfl, hb2⟩
  obtain ⟨t, ht⟩ : ∃ t, sumOf (ws.take (1 + 2 * n)) = t := ⟨_, rfl⟩
  rw [ht]
  have HT := Lib.hid ht
  have h2 := hD.trans ⟨hb2⟩
  have B2 := B1.at ⟨hb2⟩
  clear ht hIw1 hD B1 hb2
  by_cases hts : t = s
  case neg =>
    have hbt : (t != s) = true := by rw [bne_iff_ne]; exact hts
    have HO := Lib.hid (show readOk g ws = false from by unfold readOk; rw [HE.out, HT.out, HSS.out]; simp [hts])
    clear hts
    go_wp2_with fail
    go_ret2
    exact readR_no HO.out rfl ⟨h2.b⟩
  subst hts
  have hbt : (t != t) = false := by simp
  have HO := Lib.hid (show readOk g ws = (smallTo ws n && mayW g (pairsN ws n)) from readOk_eq HR.out (by rw [HE.out, HT.out, HSS.out]) HN.out)
  go_wp2_with fail
  clear hbt
  have hwB := (cell_lt B2.c0).1
  dsimp only at hwB
  obtain ⟨WB, hWB⟩ : ∃ WB, w2 = WB := ⟨_, rfl⟩
  have BW := B2
  have hW := h2
  rw [hWB] at BW hW
  have hwW : w.heap.size < WB.heap.size := by rw [← hWB]; exact hwB
  go_loopw [4, 9] (fun o i wr => ∃ k j : Nat, k ≤ n ∧ j = 1 + 2 * k ∧ i = .int .i64 j ∧ smallTo ws k = true ∧ wr.ownsRow (w.heap.size + 1) 91 2 o k (prC (pairsN ws k)) ∧ Below (w.heap.size + 1) WB wr ∧ Below w.heap.size w wr) (fun _ i _ => 1 + 2 * n - (intOf i).toNat)
  case atStart => exact ⟨0, 1, Nat.zero_le _, rfl, rfl, rfl, ⟨rfl, .inl ⟨rfl, rfl⟩⟩, by rw [hWB]; exact Below.refl _ _, h2.b⟩
  case round =>
    obtain ⟨k, j, hk, hj, rfl, hsm, hrow, hBB, hBr⟩ := hrel
    have HJ := Lib.hid hj
    have HSM := Lib.hid hsm
    have HBB := Lib.hid hBB
    clear h2 B2 hsm
    by_cases hlt : k < n
    · obtain ⟨x1, hx1⟩ : ∃ x1, ws[1 + 2 * k]?.getD 0 = x1 := ⟨_, rfl⟩
      obtain ⟨x2, hx2⟩ : ∃ x2, ws[2 + 2 * k]?.getD 0 = x2 := ⟨_, rfl⟩
      have c1 := HCS.out j (by rw [HLEN.out]; omega)
      have c2 := HCS.out (j + 1) (by rw [HLEN.out]; omega)
      rw [show ws[j]?.getD 0 = x1 by rw [hj]; exact hx1] at c1
      rw [show ws[j + 1]?.getD 0 = x2 by rw [hj, show 1 + 2 * k + 1 = 2 + 2 * k by omega]; exact hx2] at c2
      have hj1 : (0 : Int) ≤ (j : Int) + 1 := by omega
      have hj2 : j < 1 + 2 * n := by omega
      have hj3 : j + 1 < 1 + 2 * n := by omega
      have hj4 : (j : Int) + 1 < 1 + 2 * (n : Int) := by omega
      have hwj : IntKind.i64.wrap ((j : Int) + 1) = (j : Int) + 1 := by simp [IntKind.wrap, IntKind.bits, IntKind.signed]; omega
      clear hj
      have hx0 : 0 ≤ x1 := by rw [← hx1, List.getElem?_eq_getElem (by rw [HLEN.out]; omega)]; exact (HU.out _ (List.getElem_mem _)).1
      have c1r : wr.cell? ⟨b, off + j, none⟩ = some (.int .u64 x1) := (hBr.cell (p := ⟨b, off + j, none⟩) HBN.out).trans c1
      have c2r : wr.cell? ⟨b, off + (j + 1), none⟩ = some (.int .u64 x2) := (hBr.cell (p := ⟨b, off + (j + 1), none⟩) HBN.out).trans c2
      have HC1 := Lib.hid c1
      have HC2 := Lib.hid c2
      have HX1 := Lib.hid hx1
      have HX2 := Lib.hid hx2
      clear c1 c2 hx1 hx2
      by_cases hbig : 65536 ≤ x1
      · have HF := Lib.hid (show readOk g ws = false from by rw [HO.out, smallTo_false hlt (by rw [HX1.out]; omega)]; rfl)
        go_wp2_with fail
        go_ret2
        exact readR_no HF.out rfl ⟨hBr⟩
      · have hw1 : IntKind.i64.wrap x1 = x1 := by simp [IntKind.wrap, IntKind.bits, IntKind.signed]; omega
        have hrow2 := (own_below (Nw.refl.drew).b hrow).alloc (.cells #[.int .i64 x1, .int .u64 x2] 91)
        have HI2 := Lib.hid (show ∀ j u, [Value.int .i64 x1, .int .u64 x2][j]? = some u → (wr.alloc (.cells #[.int .i64 x1, .int .u64 x2] 91)).drew.cell? (Addr.add ⟨wr.heap.size, 0, none⟩ j) = some u from two_cells wr _ _ _)
        have hsz := hBB.size
        have HSZ := Lib.hid (show w.heap.size + 1 ≤ (wr.drew.alloc (.cells #[.int .i64 x1, .int .u64 x2] 91)).heap.size from by simp; omega)
        have HSZ2 := Lib.hid (show w.heap.size ≤ (wr.drew.alloc (.cells #[.int .i64 x1, .int .u64 x2] 91)).heap.size from by simp; omega)
        have HBA := Lib.hid (hBB.drew.alloc (by show w.heap.size + 1 ≤ wr.heap.size; omega) (.cells #[.int .i64 x1, .int .u64 x2] 91))
        go_wp2_with fail
        refine wp_region_noPanic ?_
        refine wp_region_held_drew (S := (fun w' => w'.cell? ⟨b, off + j, none⟩ = some (.int .u64 x1) ∧ w'.cell? ⟨b, off + (j + 1), none⟩ = some (.int .u64 x2) ∧ Below w.heap.size w w')) (by kernel_rfl) ?_ (fun hHeld => ?_)
        · exact ⟨c1r, c2r, hBr.drew⟩
        refine takeD (i := 0) (v := ?_) 35 rfl rfl ?_ ?_ ?_ (fun _ _ _ h => h) ?_ (by assumption) ?_
        rotate_left
        · kernel_rfl
        · kernel_rfl
        · kernel_rfl
        · refine Or.inl (And.intro ?_ ?_)
          · rfl
          · intro w hSw
            try dsimp only at hSw
            first | (go_simp; done) | (go_simp; with_reducible rfl)
        simp only [List.setIfInBounds_toArray, List.set_cons_zero, List.set_cons_succ]
        refine takeD (i := 1) (v := ?_) 36 rfl rfl ?_ ?_ ?_ (fun _ _ _ h => h) ?_ (by assumption) ?_
        rotate_left
        · kernel_rfl
        · kernel_rfl
        · kernel_rfl
        · refine Or.inl (And.intro ?_ ?_)
          · rfl
          · intro w hSw
            try dsimp only at hSw
            first | (go_simp; done) | (go_simp; with_reducible rfl)
        simp only [List.setIfInBounds_toArray, List.set_cons_zero, List.set_cons_succ]
        refine takeD (i := 2) (v := ?_) 37 rfl rfl ?_ ?_ ?_ (fun _ _ _ h => h) ?_ (by assumption) ?_
        rotate_left
        · kernel_rfl
        · kernel_rfl
        · kernel_rfl
        · refine Or.inl (And.intro ?_ ?_)
          · rfl
          · intro w hSw
            try dsimp only at hSw
            first | (go_simp; done) | (go_simp; with_reducible rfl)
        simp only [List.setIfInBounds_toArray, List.set_cons_zero, List.set_cons_succ]
        refine takeD (i := 3) (v := ?_) 38 rfl rfl ?_ ?_ ?_ (fun _ _ _ h => h) ?_ (by assumption) ?_
        rotate_left
        · kernel_rfl
        · kernel_rfl
        · kernel_rfl
        · refine Or.inl (And.intro ?_ ?_)
          · rfl
          · intro w hSw
            try dsimp only at hSw
            first | (go_simp; done) | (go_simp; with_reducible rfl)
        simp only [List.setIfInBounds_toArray, List.set_cons_zero, List.set_cons_succ]
        refine takeD (i := 4) (v := ?_) 39 rfl rfl ?_ ?_ ?_ (fun _ _ _ h => h) ?_ (by assumption) ?_
        rotate_left
        · kernel_rfl
        · kernel_rfl
        · kernel_rfl
        · refine Or.inl (And.intro ?_ ?_)
          · rfl
          · intro w hSw
            try dsimp only at hSw
            first | (go_simp; done) | (go_simp; with_reducible rfl)
        simp only [List.setIfInBounds_toArray, List.set_cons_zero, List.set_cons_succ]
        refine takeD (i := 5) (v := ?_) 40 rfl rfl ?_ ?_ ?_ (fun _ _ _ h => h) ?_ (by assumption) ?_
        rotate_left
        · kernel_rfl
        · kernel_rfl
        · kernel_rfl
        · refine Or.inl (And.intro ?_ ?_)
          · rfl
          · intro w hSw
            try dsimp only at hSw
            first | (go_simp; done) | (go_simp; with_reducible rfl)
        simp only [List.setIfInBounds_toArray, List.set_cons_zero, List.set_cons_succ]
        refine takeD (i := 6) (v := ?_) 41 rfl rfl ?_ ?_ ?_ (fun _ _ _ h => h) ?_ (by assumption) ?_
        rotate_left
        · kernel_rfl
        · kernel_rfl
        · kernel_rfl
        · refine Or.inl (And.intro ?_ ?_)
          · rfl
          · intro w hSw
            try dsimp only at hSw
            first | (go_simp; done) | (go_simp; with_reducible rfl)
        simp only [List.setIfInBounds_toArray, List.set_cons_zero, List.set_cons_succ]
        refine takeD (i := 7) (v := ?_) 42 rfl rfl ?_ ?_ ?_ (fun _ _ _ h => h) ?_ (by assumption) ?_
        rotate_left
        · kernel_rfl
        · kernel_rfl
        · kernel_rfl
        · refine Or.inl (And.intro ?_ ?_)
          · rfl
          · intro w hSw
            try dsimp only at hSw
            first | (go_simp; done) | (go_simp; with_reducible rfl)
        simp only [List.setIfInBounds_toArray, List.set_cons_zero, List.set_cons_succ]
        refine takeD (i := 8) (v := ?_) 43 rfl rfl ?_ ?_ ?_ (fun _ _ _ h => h) ?_ (by assumption) ?_
        rotate_left
        · kernel_rfl
        · kernel_rfl
        · kernel_rfl
        · refine Or.inl (And.intro ?_ ?_)
          · rfl
          · intro w hSw
            try dsimp only at hSw
            first | (go_simp; done) | (go_simp; with_reducible rfl)
        simp only [List.setIfInBounds_toArray, List.set_cons_zero, List.set_cons_succ]
        refine takeD (i := 9) (v := ?_) 44 rfl rfl ?_ ?_ ?_ (fun _ _ _ h => h) ?_ (by assumption) ?_
        rotate_left
        · kernel_rfl
        · kernel_rfl
        · kernel_rfl
        · refine Or.inl (And.intro ?_ ?_)
          · rfl
          · intro w hSw
            try dsimp only at hSw
            first | (go_simp; done) | (go_simp; with_reducible rfl)
        simp only [List.setIfInBounds_toArray, List.set_cons_zero, List.set_cons_succ]
        refine takeD (i := 10) (v := ?_) 45 rfl rfl ?_ ?_ ?_ (fun _ _ _ h => h) ?_ (by assumption) ?_
        rotate_left
        · kernel_rfl
        · kernel_rfl
        · kernel_rfl
        · refine Or.inl (And.intro ?_ ?_)
          · rfl
          · intro w hSw
            try dsimp only at hSw
            first | (go_simp; done) | (go_simp; with_reducible rfl)
        simp only [List.setIfInBounds_toArray, List.set_cons_zero, List.set_cons_succ]
        refine takeD (i := 11) (v := ?_) 46 rfl rfl ?_ ?_ ?_ (fun _ _ _ h => h) ?_ (by assumption) ?_
        rotate_left
        · kernel_rfl
        · kernel_rfl
        · kernel_rfl
        · refine Or.inl (And.intro ?_ ?_)
          · rfl
          · intro w hSw
            try dsimp only at hSw
            first | (go_simp; done) | (go_simp; with_reducible rfl)
        simp only [List.setIfInBounds_toArray, List.set_cons_zero, List.set_cons_succ]
        refine wpAnyH_ready (rs := [12]) (by kernel_rfl) (by simp) ?_
        refine AllReadyH.cons rfl (fun K hK => ?_) AllReadyH.nil
        go_simp
        refine hK.out _ _ ?_ (fun hHeld2 => ?_)
        · exact ⟨(Below.cell (hHeld.2.2.alloc hHeld.2.2.size _) (p := ⟨b, off + j, none⟩) HBN.out).trans HC1.out, (Below.cell (hHeld.2.2.alloc hHeld.2.2.size _) (p := ⟨b, off + (j + 1), none⟩) HBN.out).trans HC2.out, (hHeld.2.2.alloc hHeld.2.2.size _)⟩
        have hHeld := hHeld2
        clear hHeld2 hK K
        refine wpAnyH_ready (rs := [13]) (by kernel_rfl) (by simp) ?_
        refine AllReadyH.cons rfl (fun K hK => ?_) AllReadyH.nil
        refine ready_if rfl ?_
        refine wp_append_own _ (.tmp 35) (.tmp 47) 43 rfl (w.heap.size + 1) 91 i0 (.agg #[.int .i64 0, .int .u64 0]) 2 16 Tryz.underlying43 hi hz0 hz1 hz2 rfl (by decide) _ _ _ rfl hrow2 ⟨wr.heap.size, 0, none⟩ 1 1 [.int .i64 x1, .int .u64 x2] rfl rfl HI2.out (by simp [Value.oneCell']) (by unfold maxLen; omega) (by omega) HSZ.out ?_
        intro v3 w3 hown3 hgrow3 hnil3
        go_simp
        have hB3 : Below (w.heap.size + 1) WB w3 := Below.grown HBA.out hgrow3 HSZ.out (fun k e => (hrow2.lt k e).1)
        have hB4 : Below w.heap.size w w3 := Below.grown hHeld.2.2 hgrow3 HSZ2.out (fun k e => by have := (hrow2.lt k e).1; omega)
        clear hnil3 hgrow3
        refine hK.out _ _ ?_ (fun hHeld2 => ?_)
        · exact ⟨(Below.cell hB4 (p := ⟨b, off + j, none⟩) HBN.out).trans HC1.out, (Below.cell hB4 (p := ⟨b, off + (j + 1), none⟩) HBN.out).trans HC2.out, hB4⟩
        have hHeld := hHeld2
        clear hHeld2 hK K
        refine takeD (i := 14) (v := ?_) 4 rfl rfl ?_ ?_ ?_ (fun _ _ _ h => h) ?_ (by assumption) ?_
        rotate_left
        · kernel_rfl
        · kernel_rfl
        · kernel_rfl
        · refine Or.inl (And.intro ?_ ?_)
          · rfl
          · intro w hSw
            try dsimp only at hSw
            first | (go_simp; done) | (go_simp; with_reducible rfl)
        simp only [List.setIfInBounds_toArray, List.set_cons_zero, List.set_cons_succ]
        refine wpAnyH_done (by kernel_rfl) ?_ _
        refine NoPanic.normal ?_
        go_wp2_with fail
        go_roundw
        case rel => exact ⟨k + 1, j + 2, by omega, by have := HJ.out; omega, by go_num, by rw [smallTo_succ, HSM.out, HX1.out]; simp; omega, by rw [pairsN_succ, prC_snoc, HX1.out, HX2.out]; exact hown3, hB3, hB4⟩
        case measure => simp [intOf]; have := HJ.out; omega
    · obtain rfl : k = n := by omega
      have hpl : (pairsN ws k).length = k := pairsN_len ws k
      have hj2 : ¬ j < 1 + 2 * k := by omega
      clear hj
      have BR : Box wr w.heap.size g := ⟨(hBB.cell (p := ⟨w.heap.size, 0, none⟩) (Nat.lt_succ_self _)).trans BW.c0, (hBB.cell (p := ⟨w.heap.size, 1, none⟩) (Nat.lt_succ_self _)).trans BW.c1, (hBB.cell (p := ⟨w.heap.size, 2, none⟩) (Nat.lt_succ_self _)).trans BW.c2⟩
      obtain ⟨va, vc, rfl, hcv, hPv⟩ := Pairs.of_owns (l := pairsN ws k) (by rw [hpl]; exact hrow)
      have HFR := Lib.hid (fun p hp => Nat.le_of_succ_le (own_fresh hrow p hp))
      rw [hpl] at hcv
      have b0 := BR.c0
      have b1 := BR.c1
      have b2 := BR.c2
      have HSM' := HSM.out
      have hwf := pairsN_wf HU.out (by rw [HLEN.out]; omega) HSM'
      have HMY := Lib.hid (rcmay_any g va vc wr.heap.size (pairsN ws k) hwf wr (Nat.le_refl _) hPv (by rw [hpl]; omega))
      rw [hpl] at HMY
      obtain ⟨mm, hmm⟩ : ∃ mm, mayW g (pairsN ws k) = mm := ⟨_, rfl⟩
      rw [hmm] at HMY
      have HO2 := Lib.hid (show readOk g ws = mm from by rw [HO.out, HSM', hmm]; rfl)
      have HP := Lib.hid hPv
      unfold gV at HMY
      clear hrow hmm hwf HSM' hPv
      rw [hpl]
      go_wp2_with fail
      refine HMY.out.mono ?_
      rintro e w3 ⟨rfl, h3⟩
      clear b0 b1 b2 HMY
      cases mm with
      | false =>
        go_wp2_with fail
        go_ret2
        exact readR_no HO2.out rfl ⟨hBr.trans (h3.b.mono hBr.size)⟩
      | true =>
        go_wp2_with fail
        go_ret2
        exact readR_yes HO2.out HN.out rfl hcv (HP.out.nw h3) ⟨hBr.trans (h3.b.mono hBr.size)⟩ HFR.out

end Go.Proofs.YtkopfnldgnkkoaaGreat

/-
  THE WALKS OF grommetref03.Same.
-/
namespace Go.Proofs.YtkopfnldgnkkoaaGreat
open Go.RowKit Go.Shelf
set_option linter.unusedVariables false

theorem Pairs.at {k1 k2 : IntKind} {n₀ : Nat} {A : World} {a : Option Addr} {l : List Wr} (h : Pairs k1 k2 n₀ A a l) {j : Nat} (hj : j < l.length) :
    ∃ b off, a = some ⟨b, off, none⟩ ∧ A.cell? ⟨b, off + j * 2, none⟩ = some (.int k1 l[j].1) ∧ A.cell? ⟨b, off + j * 2 + 1, none⟩ = some (.int k2 l[j].2) := by
  rcases h with rfl | ⟨b, off, e, hb, hc⟩
  · simp at hj
  · have := hc j hj
    rw [List.getElem?_eq_getElem hj] at this
    exact ⟨b, off, e, this.1, this.2⟩

set_option maxHeartbeats 1000000 in
theorem same_no_len (a1 : Option Addr) (n1 c1 : Nat) (a2 : Option Addr) (n2 c2 : Nat) (h : n1 ≠ n2) (w : World) :
    Calls Tryz.prog 29 #[.slice a1 n1 c1, .slice a2 n2 c2] w (Quietly (.bool false) w) := by
  have hd : ((n1 : Int) != (n2 : Int)) = true := by rw [bne_iff_ne]; omega
  clear h
  go_enter Tryz.func29, Tryz.ntmps29
  go_wp2_with fail
  go_ret
  exact ⟨rfl, 0, rfl⟩

set_option maxHeartbeats 2000000 in
theorem same_len (a1 : Option Addr) (n c1 : Nat) (a2 : Option Addr) (c2 : Nat) (xs ys : List Int) (hx : xs.length = n) (hy : ys.length = n) (hn : n * 8 ≤ 140737488351232) (B : Nat) (w : World) (hI : Ints B .u64 w a1 xs) (hJ : Ints B .u64 w a2 ys) :
    Calls Tryz.prog 29 #[.slice a1 n c1, .slice a2 n c2] w (Quietly (.bool (decide (xs = ys))) w) := by
  have HX := Lib.hid hx
  have HY := Lib.hid hy
  clear hx hy
  go_enter Tryz.func29, Tryz.ntmps29
  go_wp2_with fail
  go_loopw [5] (fun i wr => ∃ k : Nat, k ≤ n ∧ i = .int .i64 k ∧ xs.take k = ys.take k ∧ ∃ m, wr = w.drewN m) (fun i _ => n - (intOf i).toNat)
  case atStart => exact ⟨0, by omega, rfl, rfl, 0, rfl⟩
  case round =>
    obtain ⟨k, hk, rfl, htk, m, hm⟩ := hrel
    have HT := Lib.hid htk
    have HMm := Lib.hid hm
    clear htk hm
    by_cases hlt : k < n
    · obtain ⟨b1, o1, rfl, _, p1⟩ := hI.at (j := k) (by rw [HX.out]; exact hlt)
      obtain ⟨b2, o2, rfl, _, p2⟩ := hJ.at (j := k) (by rw [HY.out]; exact hlt)
      have q1 := (show wr.cell? ⟨b1, o1 + k, none⟩ = w.cell? ⟨b1, o1 + k, none⟩ from by rw [HMm.out]; rfl).trans p1
      have q2 := (show wr.cell? ⟨b2, o2 + k, none⟩ = w.cell? ⟨b2, o2 + k, none⟩ from by rw [HMm.out]; rfl).trans p2
      clear p1 p2 hI hJ
      obtain ⟨x, hx⟩ : ∃ x, xs[k]'(by rw [HX.out]; exact hlt) = x := ⟨_, rfl⟩
      obtain ⟨y, hy⟩ : ∃ y, ys[k]'(by rw [HY.out]; exact hlt) = y := ⟨_, rfl⟩
      rw [hx] at q1
      rw [hy] at q2
      have HXX := Lib.hid hx
      have HYY := Lib.hid hy
      clear hx hy
      by_cases he : x = y
      · have hd : (x != y) = false := by rw [he]; simp
        have HE := Lib.hid he
        clear he
        go_wp2_with fail
        go_quiet (fail)
        go_wp2_with fail
        go_roundw
        case rel => exact ⟨k + 1, by omega, by go_num, by rw [List.take_succ_eq_append_getElem (by rw [HX.out]; exact hlt), List.take_succ_eq_append_getElem (by rw [HY.out]; exact hlt), HT.out, HXX.out, HYY.out, HE.out], m + nq, by rw [HMm.out, World.drewN_drewN]⟩
        case measure => simp [intOf]; omega
      · have hd : (x != y) = true := by rw [bne_iff_ne]; exact he
        have HF := Lib.hid (show decide (xs = ys) = false by
          rw [decide_eq_false_iff_not]; intro hh; subst hh; exact he (HXX.out.symm.trans HYY.out))
        clear he
        go_wp2_with fail
        go_quiet (fail)
        go_wp2_with fail
        go_ret
        exact ⟨by rw [HF.out]; rfl, m + nq, by rw [HMm.out, World.drewN_drewN]⟩
    · have HF := Lib.hid (show decide (xs = ys) = true by
        rw [decide_eq_true_eq]
        have := HT.out
        rwa [List.take_of_length_le (by rw [HX.out]; omega), List.take_of_length_le (by rw [HY.out]; omega)] at this)
      go_wp2_with fail
      go_ret
      exact ⟨by rw [HF.out]; rfl, m, HMm.out⟩

end Go.Proofs.YtkopfnldgnkkoaaGreat
