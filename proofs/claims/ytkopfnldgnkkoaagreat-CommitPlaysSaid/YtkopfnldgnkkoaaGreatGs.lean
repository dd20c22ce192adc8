import Derived.Test.YtkopfnldgnkkoaaGreatGm
import Derived.Test.YtkopfnldgnkkoaaGreatRwB
import Derived.Test.YtkopfnldgnkkoaaGreatCmI

/-
  THE LAW'S DEVICE: a new one of words that are sure, and the document's.
-/
namespace Go.Proofs.YtkopfnldgnkkoaaGreat
open Go.RowKit Go.Shelf
set_option linter.unusedVariables false

/-- A word that is sure. -/
def doneW (v : Int) : Wd := evictW (storeW zeroW v)
def filS (zs : List Int) (j : Nat) : Nat → Wd := fun k => if k < j then storeW zeroW (zs[k]?.getD 0) else zeroW
def filE (zs : List Int) (i : Nat) : Nat → Wd := fun k => if k / 8 < i then doneW (zs[k]?.getD 0) else storeW zeroW (zs[k]?.getD 0)
def filD (zs : List Int) : Nat → Wd := fun k => doneW (zs[k]?.getD 0)
theorem filS_zero (zs : List Int) : filS zs 0 = fun _ => zeroW := by funext k; exact if_neg (Nat.not_lt_zero _)
theorem filS_at (zs : List Int) (j : Nat) : filS zs j j = zeroW := if_neg (Nat.lt_irrefl _)
theorem filS_succ (zs : List Int) (j : Nat) : upd (filS zs j) j (storeW (filS zs j j) (zs[j]?.getD 0)) = filS zs (j + 1) := by
  rw [filS_at]
  funext k
  unfold upd filS
  by_cases e : k = j
  · subst e; rw [if_pos rfl, if_pos (Nat.lt_succ_self _)]
  · rw [if_neg e]
    by_cases h : k < j
    · rw [if_pos h, if_pos (by omega)]
    · rw [if_neg h, if_neg (by omega)]
theorem filE_zero (zs : List Int) (N k : Nat) (hk : k < N) : filS zs N k = filE zs 0 k := by
  unfold filS filE
  rw [if_pos hk, if_neg (Nat.not_lt_zero _)]
theorem filE_succ (zs : List Int) (i : Nat) : evictU i (filE zs i) = filE zs (i + 1) := by
  funext k
  unfold evictU lineU
  by_cases e : k / 8 = i
  · have h1 : filE zs i k = storeW zeroW (zs[k]?.getD 0) := if_neg (by omega)
    rw [h1, if_pos ⟨e, rfl⟩]
    exact (if_pos (show k / 8 < i + 1 by omega)).symm
  · rw [if_neg (fun h => e h.1)]
    unfold filE
    by_cases h : k / 8 < i
    · rw [if_pos h, if_pos (by omega)]
    · rw [if_neg h, if_neg (by omega)]
theorem filE_all (zs : List Int) (N k : Nat) (hk : k < N) (h8 : N % 8 = 0) : filE zs (N / 8) k = filD zs k := if_pos (by omega)

/-- What the device tells. -/
def DevR (zs : List Int) (N : Nat) (w : World) (e : Ending) (w' : World) : Prop :=
  ∃ d b r c, e = .returned (.tuple #[.pointer (some ⟨d, 0, none⟩), .pointer (some ⟨r, 0, none⟩), .bool true]) ∧ DevAt w' d b N (filD zs) ∧ RevAt w' r c N (filD zs) ∧ Nw w w' ∧ w.heap.size ≤ b ∧ w.heap.size ≤ d ∧ w.heap.size ≤ c ∧ w.heap.size ≤ r
set_option maxRecDepth 100000 in
set_option maxHeartbeats 4000000 in
theorem device_any (a : Option Addr) (N c n₀ : Nat) (zs : List Int) (hx : zs.length = N) (h8 : 8 ≤ N) (hle : N ≤ 65536) (hb8 : N % 8 = 0) (w : World) (hn₀ : n₀ ≤ w.heap.size) (hI : Ints n₀ .u64 w a zs) :
    Calls Tryz.prog 8 #[.slice a N c] w (DevR zs N w) := by
  have HX := Lib.hid hx
  have HI := Lib.hid (hI.mono hn₀)
  clear hI hx
  go_enter Tryz.func8, Tryz.ntmps8
  go_wp2_with fail
  (with_reducible refine (newd_yes N h8 hle hb8 _).mono ?_)
  rintro e w1 ⟨d, b, rfl, hD, hn1, hb, hd⟩
  have HD := Lib.hid hD
  have HN := Lib.hid hn1
  have HB := Lib.hid hb
  have HDD := Lib.hid hd
  clear hD hn1 hb hd
  go_wp2_with fail
  (with_reducible refine (rnewd_yes N h8 hle hb8 _).mono ?_)
  rintro e w2 ⟨r, q, rfl, hR, hn2, hq, hr⟩
  have HR2 := Lib.hid hR
  have HD2 := Lib.hid (HD.out.nw hn2)
  have HN2 := Lib.hid (HN.out.trans hn2)
  have HQ := Lib.hid (Nat.le_trans HN.out.b.size hq)
  have HRR := Lib.hid (Nat.le_trans HN.out.b.size hr)
  have HNE := Lib.hid (show r ≠ b ∧ q ≠ b ∧ d ≠ q ∧ b ≠ q from ⟨hR.k.tag.ne HD2.out.a.ty (by decide), hR.a.ty.ne HD2.out.a.ty (by decide), HD2.out.k.tag.ne hR.a.ty (by decide), HD2.out.a.ty.ne hR.a.ty (by decide)⟩)
  clear hR hn2 hq hr HD HN
  go_wp2_with fail
  go_loopw [9] (fun v wq => ∃ j : Nat, j ≤ N ∧ v = .int .i64 j ∧ DevAt wq d b N (filS zs j) ∧ RevAt wq r q N (filS zs j) ∧ Nw w wq) (fun v _ => N - (intOf v).toNat)
  case atStart => exact ⟨0, Nat.zero_le _, rfl, by rw [filS_zero]; exact HD2.out, by rw [filS_zero]; exact HR2.out, HN2.out⟩
  case round =>
    obtain ⟨j, hj, rfl, hD, hR, hn⟩ := hrel
    have HD := Lib.hid hD
    have HR := Lib.hid hR
    have HN := Lib.hid hn
    clear hD hR hn HD2 HR2 HN2
    by_cases hjN : j < N
    · obtain ⟨ab, ao, rfl, hab, p1⟩ := (HI.out.below HN.out.b).at (j := j) (by rw [HX.out]; exact hjN)
      have HV := Lib.hid (show zs[j]?.getD 0 = zs[j]'(by rw [HX.out]; exact hjN) by rw [List.getElem?_eq_getElem (by rw [HX.out]; exact hjN)]; rfl)
      have HS := Lib.hid (filS_succ zs j)
      rw [HV.out] at HS
      have hbb := HB.out
      have hqq := HQ.out
      have hne1 : ab ≠ b := by omega
      have HP := Lib.hid p1
      generalize zs[j]'(by rw [HX.out]; exact hjN) = v at *
      have HC1 := Lib.hid (store_any d b N (filS zs j) j hjN v wr HD.out)
      rw [HS.out] at HC1
      have hj0 : (j : Int) < (N : Int) := by omega
      have hjn : (0 : Int) ≤ (j : Int) := by omega
      clear HV
      go_wp2_with fail
      (with_reducible refine HC1.out.mono ?_)
      rintro e w5 ⟨rfl, hD5, hu5⟩
      have HD5 := Lib.hid hD5
      have HR5 := Lib.hid (HR.out.up hu5 HNE.out.1 HNE.out.2.1)
      have HN5 := Lib.hid (show Nw w w5 from ⟨Up.below HN.out.b hu5 HN.out.b.size hbb⟩)
      have p1' := hu5.cell HP.out hne1
      have HC2 := Lib.hid (rstore_any r q N (filS zs j) j hjN v w5 HR5.out)
      rw [HS.out] at HC2
      clear hD5 hu5 p1 HC1 HD HR HN HP
      go_wp2_with fail
      (with_reducible refine HC2.out.mono ?_)
      rintro e w6 ⟨rfl, hR6, hu6⟩
      have HR6 := Lib.hid hR6
      have HD6 := Lib.hid (HD5.out.up hu6 HNE.out.2.2.1 HNE.out.2.2.2)
      have HN6 := Lib.hid (show Nw w w6 from ⟨Up.below HN5.out.b hu6 HN5.out.b.size hqq⟩)
      clear hR6 hu6 HC2 HD5 HR5 HN5 p1'
      go_wp2_with fail
      go_roundw
      case rel => exact ⟨j + 1, by omega, by go_num, HD6.out, HR6.out, HN6.out⟩
      case measure => simp [intOf]; omega
    · obtain rfl : j = N := by omega
      have HDe := Lib.hid (HD.out.congr (g := filE zs 0) (fun k hk => filE_zero zs j k hk))
      have HRe := Lib.hid (HR.out.congr (g := filE zs 0) (fun k hk => filE_zero zs j k hk))
      obtain ⟨M, hM⟩ : ∃ M, j / 8 = M := ⟨_, rfl⟩
      have hq8 : (j : Int).tdiv 8 = (M : Int) := by rw [Int.tdiv_eq_ediv_of_nonneg (by omega)]; omega
      have HQ8 := Lib.hid hq8
      have HM8 := Lib.hid hM
      clear hq8
      go_wp2_with fail
      go_loopw [10] (fun v wq => ∃ i : Nat, i ≤ M ∧ v = .int .i64 i ∧ DevAt wq d b j (filE zs i) ∧ RevAt wq r q j (filE zs i) ∧ Nw w wq) (fun v _ => M - (intOf v).toNat)
      case atStart => exact ⟨0, Nat.zero_le _, rfl, HDe.out, HRe.out, HN.out⟩
      case round =>
        clear HD HR HN HDe HRe
        obtain ⟨i, hi, rfl, hD, hR, hn⟩ := hrel
        have HD := Lib.hid hD
        have HR := Lib.hid hR
        have HN := Lib.hid hn
        clear hD hR hn
        have hq8 := HQ8.out
        by_cases hiM : i < M
        · have hbb := HB.out
          have hqq := HQ.out
          have HC1 := Lib.hid (evict_any d b j (filE zs i) i (by omega) wr HD.out)
          rw [filE_succ] at HC1
          have hi0 : (i : Int) < (M : Int) := by omega
          have hin : (0 : Int) ≤ (i : Int) := by omega
          go_wp2_with fail
          (with_reducible refine HC1.out.mono ?_)
          rintro e w5 ⟨rfl, hD5, hu5⟩
          have HD5 := Lib.hid hD5
          have HR5 := Lib.hid (HR.out.up hu5 HNE.out.1 HNE.out.2.1)
          have HN5 := Lib.hid (show Nw w w5 from ⟨Up.below HN.out.b hu5 HN.out.b.size hbb⟩)
          have HC2 := Lib.hid (revict_any r q j (filE zs i) i (by omega) w5 HR5.out)
          rw [filE_succ] at HC2
          clear hD5 hu5 HC1 HD HR HN
          go_wp2_with fail
          (with_reducible refine HC2.out.mono ?_)
          rintro e w6 ⟨rfl, hR6, hu6⟩
          have HR6 := Lib.hid hR6
          have HD6 := Lib.hid (HD5.out.up hu6 HNE.out.2.2.1 HNE.out.2.2.2)
          have HN6 := Lib.hid (show Nw w w6 from ⟨Up.below HN5.out.b hu6 HN5.out.b.size hqq⟩)
          clear hR6 hu6 HC2 HD5 HR5 HN5
          go_wp2_with fail
          go_roundw
          case rel => exact ⟨i + 1, by omega, by go_num, HD6.out, HR6.out, HN6.out⟩
          case measure => simp [intOf]; omega
        · obtain rfl : i = M := by omega
          go_wp2_with fail
          go_ret3
          have hfin : ∀ k, k < j → filE zs i k = filD zs k := fun k hk => by rw [← HM8.out]; exact filE_all zs j k hk hb8
          exact ⟨d, b, r, q, rfl, HD.out.congr hfin, HR.out.congr hfin, HN.out, HB.out, HDD.out, HQ.out, HRR.out⟩
end Go.Proofs.YtkopfnldgnkkoaaGreat

/-
  THE LAW'S RUNS: a new one of each worker.
-/
namespace Go.Proofs.YtkopfnldgnkkoaaGreat
open Go.RowKit Go.Shelf
set_option linter.unusedVariables false

theorem info_prun : (Tryz.prog.info? 48).map (fun i => (i.zero, i.size, i.bytes)) = some (some (.pointer none), 1, 8) := by kernel_rfl
def ptC (r : Nat) : Value := .pointer (some ⟨r, 0, none⟩)
/-- New runs of the first workers. -/
structure NewRuns (W : World) (d : Nat) (g : G) (lo : Nat) (rs : List Nat) : Prop where
  a : ∀ j (h : j < rs.length), RunAt W rs[j] d g (264 + 208 * (j : Int)) [] none
  n : rs.Pairwise (· ≠ ·)
  f : ∀ r ∈ rs, lo ≤ r
theorem NewRuns.nw {W W' : World} {d : Nat} {g : G} {lo : Nat} {rs : List Nat} (h : NewRuns W d g lo rs) (k : Nw W W') : NewRuns W' d g lo rs := ⟨fun j hj => (h.a j hj).nw k, h.n, h.f⟩
theorem NewRuns.snoc {W W' : World} {d : Nat} {g : G} {lo : Nat} {rs : List Nat} {r : Nat} (h : NewRuns W d g lo rs) (k : Nw W W') (hr : RunAt W' r d g (264 + 208 * (rs.length : Int)) [] none) (hl : W.heap.size ≤ r) (hlo : lo ≤ W.heap.size) : NewRuns W' d g lo (rs ++ [r]) := by
  refine ⟨fun j hj => ?_, ?_, fun x hx => ?_⟩
  · by_cases e : j < rs.length
    · rw [List.getElem_append_left e]; exact (h.a j e).nw k
    · rw [List.length_append, List.length_singleton] at hj
      obtain rfl : j = rs.length := by omega
      rw [List.getElem_append_right (Nat.le_refl _)]
      simpa using hr
  · rw [List.pairwise_append]
    refine ⟨h.n, List.pairwise_singleton _ _, fun x hx y hy => ?_⟩
    rw [List.mem_singleton.1 hy]
    obtain ⟨j, hj, rfl⟩ := List.getElem_of_mem hx
    have := (h.a j hj).tag.lt
    omega
  · rcases List.mem_append.1 hx with hx | hx
    · exact h.f x hx
    · rw [List.mem_singleton.1 hx]; omega
theorem RunAt.grown {w w' : World} {r d : Nat} {g : G} {area : Int} {base n : Nat} {v : Value} {xs : List Value} (h : RunAt w r d g area [] none) (hg : w.grownBy w' v.ownBlock) (ho : w.ownsRow base 48 1 v n xs) : RunAt w' r d g area [] none := by
  obtain ⟨c, hk, vs, hs, hq⟩ := h.k
  have hc : c = 0 := by
    rcases hq with ⟨_, _, h⟩ | ⟨_, _, h, _⟩
    · exact h
    · cases h
  subst hc
  exact ⟨0, grown_blk hk hg ho (by decide), [], StepsV.nil _ _ _, Qs.nil _ _ _⟩
theorem NewRuns.grown {w w' : World} {d : Nat} {g : G} {lo : Nat} {rs : List Nat} {base n : Nat} {v : Value} {xs : List Value} (h : NewRuns w d g lo rs) (hg : w.grownBy w' v.ownBlock) (ho : w.ownsRow base 48 1 v n xs) : NewRuns w' d g lo rs :=
  ⟨fun j hj => (h.a j hj).grown hg ho, h.n, h.f⟩
theorem own_lower {w : World} {b0 b1 : Nat} (hb : b0 ≤ b1) {e : TypeId} {sz : Nat} {v : Value} {n : Nat} {xs : List Value} (h : w.ownsRow b1 e sz v n xs) : w.ownsRow b0 e sz v n xs := by
  refine ⟨h.1, h.2.imp id ?_⟩
  rintro ⟨g, cap, cur, hv, hg, r⟩
  exact ⟨g, cap, cur, hv, by omega, r⟩
/-- What runs tells. -/
def RunsR (w : World) (d : Nat) (g : G) (e : Ending) (w' : World) : Prop :=
  ∃ v rs, e = .returned (.tuple #[v, .bool true]) ∧ (rs.length : Int) = g.w ∧ w'.ownsRow w.heap.size 48 1 v rs.length (rs.map ptC) ∧ NewRuns w' d g w.heap.size rs ∧ Nw w w'
set_option maxRecDepth 100000 in
set_option maxHeartbeats 4000000 in
theorem runs_any (g : G) (hm : mayP g) (d b N : Nat) (f : Nat → Wd) (hN : wordsV g ≤ N) (w : World) (h : DevAt w d b N f) :
    Calls Tryz.prog 10 #[.pointer (some ⟨d, 0, none⟩), gV g] w (RunsR w d g) := by
  obtain ⟨i0, hi, hz0, hz1, hz2⟩ := info_parts8 info_prun
  have hn0 := (Nw.refl (w := w)).alloc (.cells #[.int .i64 g.w, .int .i64 g.i, .int .i64 g.b] 26)
  have hb := Blk.new w #[.int .i64 g.w, .int .i64 g.i, .int .i64 g.b] 26
  have HD := Lib.hid h
  obtain ⟨G1, hG1⟩ : ∃ G1 : Nat, g.w = (G1 : Int) := ⟨g.w.toNat, by have := hm.1; omega⟩
  have HG1 := Lib.hid hG1
  have hG4 : G1 ≤ 4 := by have := hm.2.1; omega
  have HNW : Hid (∀ (k : Nat), k < G1 → ∀ W, Nw w W → Calls Tryz.prog 43 #[.pointer (some ⟨d, 0, none⟩), .agg #[.int .i64 g.w, .int .i64 g.i, .int .i64 g.b], .int .i64 (k : Int)] W (NewRun W d g (264 + 208 * (k : Int)))) := fun k hk W u =>
    new_yes g k hm (by omega) (by omega) d b N f hN W (HD.out.nw u)
  unfold gV
  clear h hG1
  go_enter Tryz.func10, Tryz.ntmps10
  go_upto_region 1 with fail
  generalize w.alloc (.cells #[.int .i64 g.w, .int .i64 g.i, .int .i64 g.b] 26) = w1 at *
  generalize hbx : w.heap.size = bx at hb ⊢
  have HBX := Lib.hid hbx
  have HB := Lib.hid hb
  have HN1 := Lib.hid hn0
  clear hb hn0 hbx
  go_wp2_with fail
  go_loopw [7, 6] (fun i v wq => ∃ rs : List Nat, rs.length ≤ G1 ∧ i = .int .i64 (rs.length : Nat) ∧ Nw w1 wq ∧ wq.ownsRow w1.heap.size 48 1 v rs.length (rs.map ptC) ∧ NewRuns wq d g bx rs) (fun i _ _ => G1 - (intOf i).toNat)
  case atStart => exact ⟨[], Nat.zero_le _, rfl, Nw.refl, ⟨rfl, .inl ⟨rfl, rfl⟩⟩, ⟨fun j hj => by simp at hj, List.Pairwise.nil, by simp⟩⟩
  case round =>
    obtain ⟨rs, hl, rfl, hn, how, hnr⟩ := hrel
    have HN := Lib.hid hn
    have HOW := Lib.hid how
    have HNR := Lib.hid hnr
    obtain ⟨va, vc, rfl⟩ := own_slice how
    obtain ⟨m, hmm⟩ : ∃ m, rs.length = m := ⟨_, rfl⟩
    rw [hmm] at hl HOW
    simp only [hmm]
    have HML := Lib.hid hmm
    have hbr := HB.out.nw hn
    have c0 : wr.cell? ⟨bx, 0, none⟩ = some (.int .i64 g.w) := hbr.cell rfl
    have c1 : wr.cell? ⟨bx, 1, none⟩ = some (.int .i64 g.i) := hbr.cell rfl
    have c2 : wr.cell? ⟨bx, 2, none⟩ = some (.int .i64 g.b) := hbr.cell rfl
    clear hn how hnr hmm hbr
    by_cases hk : m < G1
    · have hki : (m : Int) < g.w := by rw [HG1.out]; omega
      have HC := Lib.hid (HNW.out m hk wr (HN1.out.trans HN.out))
      unfold NewRun at HC
      go_wp2_with fail
      (with_reducible refine HC.out.mono ?_)
      rintro e w3 ⟨r, rfl, hr, hn3, hrs⟩
      have HN3 := Lib.hid (HN.out.trans hn3)
      have HO3 := Lib.hid (own_below hn3.b HOW.out)
      have HNR3 := Lib.hid (HNR.out.snoc hn3 (by rw [HML.out]; exact hr) hrs (by rw [← HBX.out]; exact (HN1.out.trans HN.out).b.size))
      have hs3 : w1.heap.size ≤ w3.heap.size := HN3.out.b.size
      have HP := Lib.hid (show ∀ j u, [Value.pointer (some ⟨r, 0, none⟩)][j]? = some u → (w3.alloc (.cells #[.pointer (some ⟨r, 0, none⟩)] 48)).cell? (Addr.add ⟨w3.heap.size, 0, none⟩ j) = some u from fun j u hj => by
        rw [Addr.add_lit, World.cell?_alloc_new]
        match j, hj with
        | 0, hj => simpa using hj
        | j + 1, hj => simp at hj)
      clear hr hn3 hrs HC c0 c1 c2
      go_wp2_with (at_builtin; go_loud (refine wpList_append_own _ rfl (.tmp 29) (.tmp 31) 35 rfl w1.heap.size 48 i0 (.pointer none) 1 8 Tryz.underlying35 hi hz0 hz1 hz2 rfl (by decide) _ _ _ rfl (HO3.out.alloc _) ⟨w3.heap.size, 0, none⟩ 1 1 [.pointer (some ⟨r, 0, none⟩)] rfl rfl HP.out (by intro u hu; simp at hu; rw [hu]; rfl) (by unfold maxLen; omega) (by omega) (by simp; omega) ?_); intro v4 w4 hown4 hgrow4 _; have hb4 : Below w1.heap.size w1 w4 := Below.grownRow (HN3.out.b.alloc hs3 _) hgrow4 (by simp; omega) (HO3.out.alloc _) (Nat.le_refl _); have HNR4 := Lib.hid ((HNR3.out.nw ((Nw.refl (w := w3)).alloc _)).grown hgrow4 (HO3.out.alloc _)); clear hgrow4)
      go_roundw
      case rel => exact ⟨rs ++ [r], by rw [List.length_append, HML.out, List.length_singleton]; omega, by rw [List.length_append, HML.out, List.length_singleton]; go_num, ⟨hb4⟩, by rw [List.length_append, HML.out, List.length_singleton, List.map_append]; exact hown4, HNR4.out⟩
      case measure => simp [intOf]; omega
    · obtain rfl : m = G1 := by omega
      have hki : (m : Int) = g.w := HG1.out.symm
      have HLL := Lib.hid (show (rs.length : Int) = g.w by rw [HML.out]; exact hki)
      have hs1 := HN1.out.b.size
      go_wp2_with fail
      go_ret2
      exact ⟨_, rs, rfl, HLL.out, own_lower hs1 (by rw [HML.out]; exact HOW.out), by rw [HBX.out]; exact HNR.out, HN1.out.trans HN.out⟩
end Go.Proofs.YtkopfnldgnkkoaaGreat
