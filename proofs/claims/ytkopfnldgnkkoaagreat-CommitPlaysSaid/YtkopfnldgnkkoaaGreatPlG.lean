/-
  THE WALK OF CommitPlays.
-/
import Derived.Deep.RegionHeld3
import Derived.Deep.RegionHeldLaw
import Derived.Deep.DeepCutAuto
import Derived.Deep.CutBlock
import Derived.Deep.QuietTactic
import Derived.Test.YtkopfnldgnkkoaaGreatPlF
import Derived.Test.YtkopfnldgnkkoaaGreatRwF
namespace Go.Proofs.YtkopfnldgnkkoaaGreat
open Go.RowKit Go.Shelf
set_option linter.unusedVariables false

theorem info_qrun : (Tryz.prog.info? 39).map (fun i => (i.zero, i.size, i.bytes)) = some (some (.pointer none), 1, 8) := by kernel_rfl
theorem geo_plg {g : G} (hm : mayP g) : ∃ N X : Nat, PlG g N X ∧ 1 ≤ X ∧ X ≤ 4 ∧ 8 ≤ N ∧ N % 8 = 0 ∧ (atN g 7).toNat = N := by
  have hb := at_bd hm 7
  have hw : wordsV g = atN g 7 := if_pos hm
  have hm' := hm
  obtain ⟨h1, h2, h3, h4, h5, h6⟩ := hm'
  refine ⟨(atN g 7).toNat, g.w.toNat, ⟨hm, by omega, by rw [hw]; omega, by omega, fun k hk => ?_⟩, by omega, by omega, ?_, ?_, rfl⟩
  · simp only [atN] at hb ⊢; omega
  · simp only [atN] at hb ⊢; omega
  · simp only [atN] at hb ⊢; omega
theorem one_cell (w : World) (v : Value) (t : TypeId) : ∀ j u, [v][j]? = some u → (w.alloc (.cells #[v] t)).cell? (Addr.add ⟨w.heap.size, 0, none⟩ j) = some u := by
  intro j u hj
  rw [Addr.add_lit, World.cell?_alloc_new]
  match j, hj with
  | 0, hj => simpa using hj
  | j + 1, hj => simp at hj
/-- A row that is told. -/
theorem row_call {P : Program} {F : FuncId} {args : Array Value} {W : World} {S : List Int} {N : Nat} (hl : S.length = N) (h : Calls P F args W (OwnU W S)) :
    Calls P F args W fun e w' => ∃ sa sc, e = .returned (.slice sa N sc) ∧ Ints w'.heap.size .u64 w' sa S ∧ Nw W w' ∧ N ≤ sc :=
  h.mono fun e w' hh => by
    obtain ⟨sa, sc, he, h1, h2, h3⟩ := hh.slice
    rw [hl] at he h3
    exact ⟨sa, sc, he, h1, h2, h3⟩
theorem over_call {g : G} {N X : Nat} (hG : PlG g N X) {S : List Int} (hl : S.length = N) (hu : ∀ x ∈ S, u64 x) (W : World) (a : Option Addr) (c : Nat) (hI : Ints W.heap.size .u64 W a S) (hc : N ≤ c) :
    Calls Tryz.prog 32 #[.agg #[.int .i64 g.w, .int .i64 g.i, .int .i64 g.b], .slice a N c] W fun e w' => ∃ oa oc, e = .returned (.slice oa N oc) ∧ Ints w'.heap.size .u64 w' oa (overL g S) ∧ Nw W w' :=
  (over_any g a N c W.heap.size S hl hc (by have := hG.le; omega) hu W (Nat.le_refl _) hI).mono fun e w' h => by
    obtain ⟨va, vc, he, _, h2, h3, _⟩ := h
    rw [overL_len' (by rw [hl]; exact hG.ov), hl] at he
    exact ⟨va, vc, he, h2, h3⟩
theorem rover_call {g : G} {N X : Nat} (hG : PlG g N X) {S : List Int} (hl : S.length = N) (hu : ∀ x ∈ S, u64 x) (W : World) (a : Option Addr) (c : Nat) (hI : Ints W.heap.size .u64 W a S) (hc : N ≤ c) :
    Calls Tryz.prog 33 #[.agg #[.int .i64 g.w, .int .i64 g.i, .int .i64 g.b], .slice a N c] W fun e w' => ∃ oa oc, e = .returned (.slice oa N oc) ∧ Ints w'.heap.size .u64 w' oa (overL g S) ∧ Nw W w' :=
  (rover_any g a N c W.heap.size S hl hc (by have := hG.le; omega) hu W (Nat.le_refl _) hI).mono fun e w' h => by
    obtain ⟨va, vc, he, _, h2, h3, _⟩ := h
    rw [overL_len' (by rw [hl]; exact hG.ov), hl] at he
    exact ⟨va, vc, he, h2, h3⟩
theorem same_call {N : Nat} (hN : N ≤ 65536) {S : List Int} (hl : S.length = N) (W : World) (a1 a2 : Option Addr) (c1 c2 : Nat) (h1 : Ints W.heap.size .u64 W a1 S) (h2 : Ints W.heap.size .u64 W a2 S) :
    Calls Tryz.prog 29 #[.slice a1 N c1, .slice a2 N c2] W fun e w' => e = .returned (.bool true) ∧ Nw W w' :=
  (same_len a1 N c1 a2 c2 S S hl hl (by omega) W.heap.size W h1 h2).mono fun e w' h => by
    obtain ⟨he, n, hn⟩ := h
    refine ⟨by rw [he, decide_eq_true rfl], ?_⟩
    rw [hn]
    exact nw_drewN W n
set_option maxRecDepth 100000 in
set_option maxHeartbeats 32000000 in
theorem walk_plays (a b c : Nat) (ha : a ≤ 255) (hb : b ≤ 255) (hc : c ≤ 255) (al : Option Addr) (len cap : Nat) (l : List S9) (w : World) (hl : l.length = len) (hlm : len ≤ 9223372036854775807) (hI : Recs s9C 7 w.heap.size w al l) (hq : ∀ x ∈ l, S9Ok w x) :
    Calls Tryz.prog 3 #[.int .u8 a, .int .u8 b, .int .u8 c, .slice al len cap] w fun e w' => e = .returned (.bool true) ∧ Below w.heap.size w w' := by
  obtain ⟨i0, hi, hz0, hz1, hz2⟩ := info_parts8 info_qrun
  obtain ⟨i1, hj91, hy0, hy1, hy2⟩ := info_parts8 info_wr
  have HFW := Lib.hid (few_any al len cap 60 (by omega) l w hl hlm hI hq)
  rw [show ((60 : Nat) : Int) = 60 from rfl] at HFW
  have HFB : Hid (fewB 60 l = true → len ≤ 60 ∧ ∀ x ∈ l, x.l.length ≤ 120 ∧ x.ps.length ≤ 100) := fun h => by
    unfold fewB at h
    simp only [Bool.and_eq_true, decide_eq_true_eq, List.all_eq_true] at h
    exact ⟨by omega, fun x hx => h.2 x hx⟩
  have HIW := Lib.hid hI
  have HQ := Lib.hid hq
  have HL := Lib.hid hl
  have HGE := Lib.hid (fun W => geo_any a b c ha hb hc W)
  obtain ⟨g, hg⟩ : ∃ g, geoG a b c = g := ⟨_, rfl⟩
  have hm := geo_may a b c
  rw [hg] at hm HGE
  obtain ⟨N, X, hG, hX1, hX4, hN8, hN8', hN7⟩ := geo_plg hm
  have HG := Lib.hid hG
  have hNl := hG.le
  have HM := Lib.hid hm
  have HGW := Lib.hid hG.w
  have HF7 := Lib.hid hN7
  have HN88 := Lib.hid hN8'
  clear hI hq hl hg hG hm hN7 hN8'
  unfold gV at HGE
  go_enter Tryz.func3, Tryz.ntmps3
  go_wp2_with fail
  (with_reducible refine HFW.out.mono ?_)
  rintro e w1 ⟨rfl, rfl⟩
  cases hfe : fewB 60 l with
  | false =>
    go_wp2_with fail
    refine (works_any w).mono ?_
    rintro e w2 ⟨rfl, h2⟩
    have HN2 := Lib.hid h2
    clear h2
    go_wp2_with fail
    go_ret
    exact ⟨rfl, HN2.out.b⟩
  | true =>
  obtain ⟨h60, hsz⟩ := HFB.out hfe
  have HSZ := Lib.hid hsz
  clear HFB HFW hfe hsz
  go_wp2_with fail
  (with_reducible refine (HGE.out w).mono ?_)
  rintro e w1 ⟨rfl, hn1⟩
  have hn2 := hn1.alloc (.cells #[.int .i64 g.w, .int .i64 g.i, .int .i64 g.b] 26)
  have hb2 := Blk.new w1 #[.int .i64 g.w, .int .i64 g.i, .int .i64 g.b] 26
  go_upto_region 4 with fail
  generalize w1.alloc (.cells #[.int .i64 g.w, .int .i64 g.i, .int .i64 g.b] 26) = w2 at *
  generalize hbx : w1.heap.size = bx at *
  have c0 : w2.cell? ⟨bx, 0, none⟩ = some (.int .i64 g.w) := hb2.cell rfl
  have c1 : w2.cell? ⟨bx, 1, none⟩ = some (.int .i64 g.i) := hb2.cell rfl
  have c2 : w2.cell? ⟨bx, 2, none⟩ = some (.int .i64 g.b) := hb2.cell rfl
  have HN2 := Lib.hid hn2
  have HB2 := Lib.hid hb2
  clear hn1 hn2 hb2 hbx HGE
  have hn3 := HN2.out.alloc (.cells #[.int .i64 g.w, .int .i64 g.i, .int .i64 g.b] 28)
  have hb3 := Blk.new w2 #[.int .i64 g.w, .int .i64 g.i, .int .i64 g.b] 28
  have hb3' := HB2.out.alloc (.cells #[.int .i64 g.w, .int .i64 g.i, .int .i64 g.b] 28)
  go_upto_region 5 with fail
  generalize w2.alloc (.cells #[.int .i64 g.w, .int .i64 g.i, .int .i64 g.b] 28) = w3 at *
  generalize hby : w2.heap.size = by_ at *
  have HN3 := Lib.hid hn3
  have HB3 := Lib.hid hb3
  have HA3 := Lib.hid hb3'
  clear c0 c1 c2 hn3 hb3 hb3' hby HN2 HB2
  have c0 : w3.cell? ⟨by_, 0, none⟩ = some (.int .i64 g.w) := HB3.out.cell rfl
  have c1 : w3.cell? ⟨by_, 1, none⟩ = some (.int .i64 g.i) := HB3.out.cell rfl
  have c2 : w3.cell? ⟨by_, 2, none⟩ = some (.int .i64 g.b) := HB3.out.cell rfl
  have HFM := Lib.hid (rformat_yes g HM.out (At.refl (w := w3)))
  unfold FmtYes gV at HFM
  rw [HF7.out] at HFM
  have HLF := Lib.hid (show (fmtL g).length = N by rw [fmtL_length]; exact HF7.out)
  have HFU := Lib.hid (fmtL_u64 HM.out)
  obtain ⟨base, hbase⟩ : ∃ base, fmtL g = base := ⟨_, rfl⟩
  rw [hbase] at HFM HLF HFU
  clear hbase
  go_wp2_with fail
  (with_reducible refine HFM.out.mono ?_)
  rintro e w4 ⟨bo, rfl, hr, hbo, h2⟩
  have HDV := Lib.hid (device_any (some ⟨bo, 0, none⟩) N N w4.heap.size base HLF.out hN8 hNl HN88.out w4 (Nat.le_refl _) hr.out.ints)
  have HN4 := Lib.hid (HN3.out.trans h2.nw)
  have HA4 := Lib.hid (HA3.out.nw h2.nw)
  have HB4 := Lib.hid (HB3.out.nw h2.nw)
  clear hr hbo h2 HFM c0 c1 c2 HN3 HA3 HB3
  go_wp2_with fail
  (with_reducible refine HDV.out.mono ?_)
  rintro e w5 ⟨d, db, rd, rb, rfl, hD, hR, hn5, hdb, hd, hrb, hrd⟩
  have HD5 := Lib.hid hD
  have HR5 := Lib.hid hR
  have HN5 := Lib.hid (HN4.out.trans hn5)
  have HA5 := Lib.hid (HA4.out.nw hn5)
  have HB5 := Lib.hid (HB4.out.nw hn5)
  have HDB := Lib.hid (Nat.le_trans HN4.out.b.size hdb)
  have HRB := Lib.hid (Nat.le_trans HN4.out.b.size hrb)
  clear hD hR hn5 hdb hd hrb hrd HDV HN4 HA4 HB4
  have c0 : w5.cell? ⟨bx, 0, none⟩ = some (.int .i64 g.w) := HA5.out.cell rfl
  have c1 : w5.cell? ⟨bx, 1, none⟩ = some (.int .i64 g.i) := HA5.out.cell rfl
  have c2 : w5.cell? ⟨bx, 2, none⟩ = some (.int .i64 g.b) := HA5.out.cell rfl
  have HRN := Lib.hid (runs_any g HM.out d db N (filD base) (by rw [HG.out.nN]; exact Int.le_refl _) w5 HD5.out)
  unfold RunsR gV at HRN
  go_wp2_with fail
  (with_reducible refine HRN.out.mono ?_)
  rintro e w6 ⟨v6, rs, rfl, hrl, hown, hnr, hn6⟩
  have hrl' : rs.length = X := by rw [HGW.out] at hrl; omega
  obtain ⟨va, vc, rfl, hvc, hva, hpa⟩ := PtsAt.of_own hown (by omega)
  rw [hrl'] at hvc
  simp only [hrl']
  have HD6 := Lib.hid (HD5.out.nw hn6)
  have HR6 := Lib.hid (HR5.out.nw hn6)
  have HN6 := Lib.hid (HN5.out.trans hn6)
  have HA6 := Lib.hid (HA5.out.nw hn6)
  have HB6 := Lib.hid (HB5.out.nw hn6)
  have HNR := Lib.hid hnr
  have HPA := Lib.hid hpa
  have HRL := Lib.hid hrl'
  have HLO := Lib.hid HN5.out.b.size
  clear hrl hown hnr hn6 hpa hva hrl' HRN HD5 HR5 HN5 HA5 HB5 c0 c1 c2
  go_wp2_with fail
  go_loopw [17, 16] (fun i v wq => ∃ qs : List Nat, qs.length ≤ X ∧ i = .int .i64 (qs.length : Nat) ∧ Nw w6 wq ∧ wq.ownsRow w6.heap.size 39 1 v qs.length (qs.map ptC) ∧ RRuns9 wq w.heap.size rd g qs (fun _ => none) (fun _ => [])) (fun i _ _ => X - (intOf i).toNat)
  case atStart => exact ⟨[], Nat.zero_le _, rfl, Nw.refl, ⟨rfl, .inl ⟨rfl, rfl⟩⟩, ⟨fun j hj => by simp at hj, fun i j hi => by simp at hi, fun i j x hi => by simp at hi, fun j hj => by simp at hj⟩⟩
  case round =>
    obtain ⟨qs, hql, rfl, hn, how, hqr⟩ := hrel
    have HN := Lib.hid hn
    have HOW := Lib.hid how
    have HQR := Lib.hid hqr
    obtain ⟨ya, yc, rfl⟩ := own_slice how
    obtain ⟨m, hmm⟩ : ∃ m, qs.length = m := ⟨_, rfl⟩
    rw [hmm] at hql HOW
    simp only [hmm]
    have HML := Lib.hid hmm
    have c0 : wr.cell? ⟨bx, 0, none⟩ = some (.int .i64 g.w) := (HA6.out.nw hn).cell rfl
    have d0 : wr.cell? ⟨by_, 0, none⟩ = some (.int .i64 g.w) := (HB6.out.nw hn).cell rfl
    have d1 : wr.cell? ⟨by_, 1, none⟩ = some (.int .i64 g.i) := (HB6.out.nw hn).cell rfl
    have d2 : wr.cell? ⟨by_, 2, none⟩ = some (.int .i64 g.b) := (HB6.out.nw hn).cell rfl
    clear hn how hqr hmm
    by_cases hk : m < X
    · have hki : (m : Int) < g.w := by rw [HGW.out]; omega
      have HC := Lib.hid (rnewrun_any g m HM.out hki rd rb N (filD base) (by rw [HG.out.nN]; exact Int.le_refl _) wr (HR6.out.nw HN.out))
      unfold RNewR gV at HC
      go_wp2_with fail
      (with_reducible refine HC.out.mono ?_)
      rintro e w7 ⟨r, rfl, hr, hn7, hrs⟩
      have HN7 := Lib.hid (HN.out.trans hn7)
      have HO7 := Lib.hid (own_below hn7.b HOW.out)
      have HQ7 := Lib.hid (HQR.out.snoc hn7 (by rw [HML.out]; exact hr) hrs (Nat.le_trans HN6.out.b.size HN.out.b.size))
      have hs7 : w6.heap.size ≤ w7.heap.size := HN7.out.b.size
      have HP := Lib.hid (one_cell w7 (.pointer (some ⟨r, 0, none⟩)) 39)
      clear hr hn7 hrs HC c0 d0 d1 d2
      go_wp2_with (at_builtin; go_loud (refine wpList_append_own _ rfl (.tmp 75) (.tmp 77) 38 rfl w6.heap.size 39 i0 (.pointer none) 1 8 Tryz.underlying38 hi hz0 hz1 hz2 rfl (by decide) _ _ _ rfl (HO7.out.alloc _) ⟨w7.heap.size, 0, none⟩ 1 1 [.pointer (some ⟨r, 0, none⟩)] rfl rfl HP.out (by intro u hu; simp at hu; rw [hu]; rfl) (by unfold maxLen; omega) (by omega) (by simp; omega) ?_); intro v8 w8 hown8 hgrow8 _; have hb8 : Below w6.heap.size w6 w8 := Below.grownRow (HN7.out.b.alloc hs7 _) hgrow8 (by simp; omega) (HO7.out.alloc _) (Nat.le_refl _); have HQ8 := Lib.hid ((HQ7.out.nw ((Nw.refl (w := w7)).alloc _)).grown hgrow8 (HO7.out.alloc _)); clear hgrow8)
      go_roundw
      case rel => exact ⟨qs ++ [r], by rw [List.length_append, HML.out, List.length_singleton]; omega, by rw [List.length_append, HML.out, List.length_singleton]; go_num, ⟨hb8⟩, by rw [List.length_append, HML.out, List.length_singleton, List.map_append]; exact hown8, HQ8.out⟩
      case measure => simp [intOf]; omega
    · obtain rfl : m = X := by omega
      have hki : (m : Int) = g.w := HGW.out.symm
      go_upto_region 17 with fail
      clear c0 d0 d1 d2 hki
      rw [← HML.out] at HOW
      obtain ⟨vb, wc, he, hwc, hvb, hpb⟩ := PtsAt.of_own HOW.out (by rw [HML.out]; omega)
      simp only [Value.slice.injEq] at he
      obtain ⟨rfl, -, rfl⟩ := he
      have HW0 := Lib.hid (show PlW w wr g N m d db rd rb vb bx by_ qs va rs (fun _ => none) (fun _ => none) (fun _ => []) (fun _ => []) (filD base) (filD base) from by
        have hr9 := (HNR.out.nw HN.out).runs9
        exact ⟨⟨HD6.out.nw HN.out, HR6.out.nw HN.out, ⟨hr9.a, hr9.n, hr9.q, fun j hj x hx => Nat.le_trans HLO.out (hr9.f j hj x hx)⟩, HQR.out, HDB.out, HRB.out⟩, HRL.out, HML.out, (Kept.of_nw (n0 := 0) HN.out).pts (by decide) HPA.out, hpb, HA6.out.nw HN.out, HB6.out.nw HN.out, HN6.out.trans HN.out⟩)
      have HOK0 := Lib.hid (show PlOk N m (fun _ => []) (filD base) from ⟨snd_filD N base, uws_filD HFU.out, fun k hk => okL9.nil N⟩)
      clear hwc hvb hpb HOW HQR HN HNR HPA HRL HLO HML HD6 HR6 HN6 HA6 HB6 HDB HRB hql hk
      clear hi hz0 hz1 hz2 i0 HF7 HN88 HLF HFU HM
      go_wp2_with fail
      go_loopw [20, 14] (fun i v wq => ∃ (j va' vc' : Nat) (rs' : List Nat) (av bv : Nat → Option Addr) (L : Nat → List St) (f : Nat → Wd), j ≤ len ∧ i = .int .i64 j ∧ v = .slice (some ⟨va', 0, none⟩) m vc' ∧ m ≤ vc' ∧ PlW w wq g N m d db rd rb vb bx by_ qs va' rs' av bv L L f f ∧ PlOk N m L f) (fun i _ _ => len - (intOf i).toNat)
      case atStart => exact ⟨0, va, vc, rs, _, _, _, _, Nat.zero_le _, rfl, rfl, hvc, HW0.out, HOK0.out⟩
      case round =>
        clear HW0 HOK0 hvc
        obtain ⟨j, va', vc', rs', av, bv, L, f, hj, rfl, rfl, hvc, hS, hO⟩ := hrel
        have HS := Lib.hid hS
        have HO := Lib.hid hO
        clear hS hO
        by_cases hjl : j < len
        · have hjL : j < l.length := by rw [HL.out]; exact hjl
          have hj0 : (0 : Int) ≤ (j : Int) := by omega
          have hjI : (j : Int) < (len : Int) := by omega
          obtain ⟨ab, ao, rfl, hab, hx⟩ := s9_at HIW.out hjL
          have hxo := HQ.out _ (List.getElem_mem hjL)
          have hxs := HSZ.out _ (List.getElem_mem hjL)
          generalize l[j] = x at *
          obtain ⟨dw, who, la, lc, xl, xat, xv, pa, pc, ps, many⟩ := x
          obtain ⟨o1, o2, o3, o4, o5, o6, o7, o8, o9, o10, o11, o12⟩ := hxo
          obtain ⟨x0, x1, x2, x3, x4, x5, x6⟩ := hx
          dsimp only at *
          obtain ⟨ln, hln⟩ : ∃ ln, xl.length = ln := ⟨_, rfl⟩
          obtain ⟨pn, hpn⟩ : ∃ pn, ps.length = pn := ⟨_, rfl⟩
          rw [hln] at x2 o4 hxs
          rw [hpn] at x5 o9 o10 hxs
          have HLN := Lib.hid hln
          have HPN := Lib.hid hpn
          have HXL := Lib.hid o5
          have HXU := Lib.hid o6
          have HAT := Lib.hid o7
          have HXV := Lib.hid o8
          have HPS := Lib.hid o11
          have HPU := Lib.hid o12
          have up : ∀ {q : Nat} {v : Value}, w.cell? ⟨ab, q, none⟩ = some v → wr.cell? ⟨ab, q, none⟩ = some v := fun h => HS.out.n.b.cell (p := ⟨ab, _, none⟩) hab |>.trans h
          have y0 := up x0
          have y1 := up x1
          have y2 := up x2
          have y3 := up x3
          have y4 := up x4
          have y5 := up x5
          have y6 := up x6
          clear up x0 x1 x2 x3 x4 x5 x6 hln hpn o5 o6 o7 o8 o11 o12 hab
          have hsb := Blk.new wr #[.int .u8 dw, .int .u8 who, .slice la ln lc, .int .i64 xat, .int .u64 xv, .slice pa pn pc, .int .u8 many] 47
          have hsn := (Nw.refl (w := wr)).alloc (.cells #[.int .u8 dw, .int .u8 who, .slice la ln lc, .int .i64 xat, .int .u64 xv, .slice pa pn pc, .int .u8 many] 47)
          go_upto_region 21 with fail
          generalize wr.alloc (.cells #[.int .u8 dw, .int .u8 who, .slice la ln lc, .int .i64 xat, .int .u64 xv, .slice pa pn pc, .int .u8 many] 47) = v1 at *
          generalize hxb : wr.heap.size = xb at *
          have HB := Lib.hid hsb
          have HS1 := Lib.hid (HS.out.nw hsn)
          clear y0 y1 y2 y3 y4 y5 y6 hsb hsn hxb
          obtain ⟨k, hk1, hkm⟩ : ∃ k : Nat, (who : Int).tmod g.w = (k : Int) ∧ k < m := by
            refine ⟨((who : Int) % (m : Int)).toNat, ?_, ?_⟩
            · rw [HGW.out, Int.tmod_eq_emod_of_nonneg (by omega)]
              have := Int.emod_nonneg (who : Int) (b := (m : Int)) (by omega)
              omega
            · have := Int.emod_nonneg (who : Int) (b := (m : Int)) (by omega)
              have := Int.emod_lt_of_pos (who : Int) (b := (m : Int)) (by omega)
              omega
          have hg0 : ¬ g.w = 0 := by rw [HGW.out]; omega
          obtain ⟨z, hz8, hzr⟩ : ∃ z : Nat, z < 8 ∧ (dw : Int).tmod 8 = (z : Int) := ⟨dw % 8, by omega, by rw [Int.tmod_eq_emod_of_nonneg (by omega)]; omega⟩
          have y0 : v1.cell? ⟨xb, 0, none⟩ = some (.int .u8 dw) := HB.out.cell rfl
          have y1 : v1.cell? ⟨xb, 1, none⟩ = some (.int .u8 who) := HB.out.cell rfl
          have c0 : v1.cell? ⟨bx, 0, none⟩ = some (.int .i64 g.w) := HS1.out.g1.cell rfl
          go_upto_block 4 with fail
          clear y0 y1 c0 hg0
          go_cut [14, 23] (fun v same wx => same = .bool true ∧ ∃ (va' vc' : Nat) (rs' : List Nat) (av bv : Nat → Option Addr) (L : Nat → List St) (f : Nat → Wd), v = .slice (some ⟨va', 0, none⟩) m vc' ∧ m ≤ vc' ∧ PlW w wx g N m d db rd rb vb bx by_ qs va' rs' av bv L L f f ∧ PlOk N m L f)
          case first =>
            have HKX : Hid (∀ W, Blk W xb #[.int .u8 dw, .int .u8 who, .slice la ln lc, .int .i64 xat, .int .u64 xv, .slice pa pn pc, .int .u8 many] 47 → W.cell? ⟨xb, 2, none⟩ = some (.slice la ln lc) ∧ W.cell? ⟨xb, 3, none⟩ = some (.int .i64 xat) ∧ W.cell? ⟨xb, 4, none⟩ = some (.int .u64 xv) ∧ W.cell? ⟨xb, 5, none⟩ = some (.slice pa pn pc) ∧ W.cell? ⟨xb, 6, none⟩ = some (.int .u8 many)) := fun W h => ⟨h.cell rfl, h.cell rfl, h.cell rfl, h.cell rfl, h.cell rfl⟩
            have hmv : ¬ movT 47 := by decide
            obtain ⟨y2, y3, y4, y5, y6⟩ := HKX.out v1 HB.out
            rcases (show z = 3 ∨ z = 4 ∨ z = 5 ∨ z = 6 ∨ z = 7 ∨ z < 3 by omega) with rfl | rfl | rfl | rfl | rfl | hz3
            · as_aux_lemma =>
                obtain ⟨r, hr⟩ : ∃ r, rs'[k]? = some r := ⟨_, List.getElem?_eq_getElem (by rw [HS1.out.rl]; exact hkm)⟩
                obtain ⟨q, hq⟩ : ∃ q, qs[k]? = some q := ⟨_, List.getElem?_eq_getElem (by rw [HS1.out.ql]; exact hkm)⟩
                have HSA := Lib.hid (fun (W : World) (u : Nw v1 W) (oa : Option Addr) (oc : Nat) (h1 : Shp oa ln oc) (h2 : Pairs .i64 .u64 W.heap.size W oa xl) (h3 : ∀ p, oa = some p → ∃ t, Tag W p.block t ∧ t ≠ 104 ∧ t ≠ 145) => (HS1.out.nw u).beginA HG.out hkm hr oa ln oc W.heap.size xl HLN.out (by omega) h1 HXU.out (Nat.le_refl _) h2 h3)
                have HSB : Hid (∀ {W : World} {av : Nat → Option Addr} {L' : Nat → List St}, PlW w W g N m d db rd rb vb bx by_ qs va' rs' av bv L' L f f → _) := fun {W av L'} s => s.beginB HG.out hkm hq la ln lc w.heap.size xl HLN.out (by omega) HXU.out s.n.b.size (pairs_upo HXL.out (O := fun _ => False) (.of_nw s.n) (fun _ _ h => h)) (fun h0 p hp => by
                  rcases HXL.out with h1 | ⟨b, off, h1, h2, _⟩
                  · exact absurd h1 h0
                  · rw [h1] at hp; cases hp; exact h2)
                have HOK := Lib.hid (HO.out.run (k := k) (begS_ok (A := 264 + 208 * (k : Int)) (by omega) (by have := HG.out.a k hkm; omega) (by have := HG.out.a k hkm; omega) HG.out.nN hNl (HO.out.l k hkm) HXU.out))
                have HK9 := Lib.hid (fun (W : World) (s : PtsAt W 48 va' rs' ∧ PtsAt W 39 vb qs ∧ Blk W xb #[.int .u8 dw, .int .u8 who, .slice la ln lc, .int .i64 xat, .int .u64 xv, .slice pa pn pc, .int .u8 many] 47) => (⟨pts_cell s.1 hr, pts_cell s.2.1 hq, s.2.2.cell rfl⟩ : W.cell? ⟨va', k, none⟩ = some (.pointer (some ⟨r, 0, none⟩)) ∧ W.cell? ⟨vb, k, none⟩ = some (.pointer (some ⟨q, 0, none⟩)) ∧ W.cell? ⟨xb, 2, none⟩ = some (.slice la ln lc)))
                have HK1 := Lib.hid (And.intro HS1.out.pa (And.intro HS1.out.pb HB.out))
                generalize hE2 : begE g (L k) xl = E1 at *
                generalize hE3 : begS g (264 + 208 * (k : Int)) (L k) xl = M1 at *
                have hkI : (k : Int) < (m : Int) := by omega
                have hk0 : (0 : Int) ≤ (k : Int) := by omega
                obtain ⟨g1, g2, g3⟩ := HK9.out v1 HK1.out
                have HNA := Lib.hid (((Nw.refl (w := v1)).drew).alloc (.cells #[] 91))
                have HRW : Hid ((v1.drew.alloc (.cells #[] 91)).ownsRow v1.heap.size 91 2 (.slice (some ⟨v1.heap.size, 0, none⟩) 0 0) 0 []) := ⟨rfl, .inr ⟨v1.heap.size, 0, #[], rfl, Nat.le_refl _, heap_alloc_new v1.drew _, Nat.le_refl _, by decide, rfl, rfl⟩⟩
                have HXLA := Lib.hid (pairs_upo HXL.out (O := fun _ => False) (.of_nw (HS1.out.n.trans HNA.out)) (fun _ _ h => h))
                have HSZ2 := Lib.hid HNA.out.b.size
                clear hE2 hE3 hr hq y2 y3 y4 y5 y6 hkm
                go_wp2_with fail
                clear g1 g2 g3
                refine wp_region_noPanic ?_
                refine wp_region_held_drew (S := (fun w' => w'.cell? ⟨va', k, none⟩ = some (.pointer (some ⟨r, 0, none⟩)) ∧ w'.cell? ⟨vb, k, none⟩ = some (.pointer (some ⟨q, 0, none⟩)) ∧ w'.cell? ⟨xb, 2, none⟩ = some (.slice la ln lc))) (by kernel_rfl) ?_ (fun hHeld => ?_)
                · exact HK9.out _ ⟨(Kept.of_nw (n0 := 0) Nw.refl.drew).pts (by decide) HK1.out.1, (Kept.of_nw (n0 := 0) Nw.refl.drew).pts (by decide) HK1.out.2.1, HK1.out.2.2.nw Nw.refl.drew⟩
                refine takeD (i := 0) (v := ?_) 135 rfl rfl ?_ ?_ ?_ (fun _ _ _ h => h) ?_ (by assumption) ?_
                rotate_left
                · kernel_rfl
                · kernel_rfl
                · kernel_rfl
                · refine Or.inl (And.intro ?_ ?_)
                  · rfl
                  · intro w hSw
                    try dsimp only at hSw
                    first | (go_simp; done) | (go_simp; with_reducible rfl)
                simp only [List.setIfInBounds_toArray, List.set_cons_zero, List.set_cons_succ]
                refine takeD (i := 1) (v := ?_) 136 rfl rfl ?_ ?_ ?_ (fun _ _ _ h => h) ?_ (by assumption) ?_
                rotate_left
                · kernel_rfl
                · kernel_rfl
                · kernel_rfl
                · refine Or.inl (And.intro ?_ ?_)
                  · rfl
                  · intro w hSw
                    try dsimp only at hSw
                    first | (go_simp; done) | (go_simp; with_reducible rfl)
                simp only [List.setIfInBounds_toArray, List.set_cons_zero, List.set_cons_succ]
                refine takeD (i := 2) (v := ?_) 137 rfl rfl ?_ ?_ ?_ (fun _ _ _ h => h) ?_ (by assumption) ?_
                rotate_left
                · kernel_rfl
                · kernel_rfl
                · kernel_rfl
                · refine Or.inl (And.intro ?_ ?_)
                  · rfl
                  · intro w hSw
                    try dsimp only at hSw
                    first | (go_simp; done) | (go_simp; with_reducible rfl)
                simp only [List.setIfInBounds_toArray, List.set_cons_zero, List.set_cons_succ]
                refine takeD (i := 3) (v := ?_) 138 rfl rfl ?_ ?_ ?_ (fun _ _ _ h => h) ?_ (by assumption) ?_
                rotate_left
                · kernel_rfl
                · kernel_rfl
                · kernel_rfl
                · refine Or.inl (And.intro ?_ ?_)
                  · rfl
                  · intro w hSw
                    try dsimp only at hSw
                    first | (go_simp; done) | (go_simp; with_reducible rfl)
                simp only [List.setIfInBounds_toArray, List.set_cons_zero, List.set_cons_succ]
                refine takeD (i := 5) (v := ?_) 140 rfl rfl ?_ ?_ ?_ (fun _ _ _ h => h) ?_ (by assumption) ?_
                rotate_left
                · kernel_rfl
                · kernel_rfl
                · kernel_rfl
                · refine Or.inl (And.intro ?_ ?_)
                  · rfl
                  · intro w hSw
                    try dsimp only at hSw
                    first | (go_simp; done) | (go_simp; with_reducible rfl)
                simp only [List.setIfInBounds_toArray, List.set_cons_zero, List.set_cons_succ]
                refine takeD (i := 6) (v := ?_) 141 rfl rfl ?_ ?_ ?_ (fun _ _ _ h => h) ?_ (by assumption) ?_
                rotate_left
                · kernel_rfl
                · kernel_rfl
                · kernel_rfl
                · refine Or.inl (And.intro ?_ ?_)
                  · rfl
                  · intro w hSw
                    try dsimp only at hSw
                    first | (go_simp; done) | (go_simp; with_reducible rfl)
                simp only [List.setIfInBounds_toArray, List.set_cons_zero, List.set_cons_succ]
                refine takeD (i := 9) (v := ?_) 144 rfl rfl ?_ ?_ ?_ (fun _ _ _ h => h) ?_ (by assumption) ?_
                rotate_left
                · kernel_rfl
                · kernel_rfl
                · kernel_rfl
                · refine Or.inl (And.intro ?_ ?_)
                  · rfl
                  · intro w hSw
                    try dsimp only at hSw
                    first | (go_simp; done) | (go_simp; with_reducible rfl)
                simp only [List.setIfInBounds_toArray, List.set_cons_zero, List.set_cons_succ]
                refine takeD (i := 10) (v := ?_) 145 rfl rfl ?_ ?_ ?_ (fun _ _ _ h => h) ?_ (by assumption) ?_
                rotate_left
                · kernel_rfl
                · kernel_rfl
                · kernel_rfl
                · refine Or.inl (And.intro ?_ ?_)
                  · rfl
                  · intro w hSw
                    try dsimp only at hSw
                    first | (go_simp; done) | (go_simp; with_reducible rfl)
                simp only [List.setIfInBounds_toArray, List.set_cons_zero, List.set_cons_succ]
                refine takeD (i := 11) (v := ?_) 146 rfl rfl ?_ ?_ ?_ (fun _ _ _ h => h) ?_ (by assumption) ?_
                rotate_left
                · kernel_rfl
                · kernel_rfl
                · kernel_rfl
                · refine Or.inl (And.intro ?_ ?_)
                  · rfl
                  · intro w hSw
                    try dsimp only at hSw
                    first | (go_simp; done) | (go_simp; with_reducible rfl)
                simp only [List.setIfInBounds_toArray, List.set_cons_zero, List.set_cons_succ]
                refine takeD (i := 12) (v := ?_) 147 rfl rfl ?_ ?_ ?_ (fun _ _ _ h => h) ?_ (by assumption) ?_
                rotate_left
                · kernel_rfl
                · kernel_rfl
                · kernel_rfl
                · refine Or.inl (And.intro ?_ ?_)
                  · rfl
                  · intro w hSw
                    try dsimp only at hSw
                    first | (go_simp; done) | (go_simp; with_reducible rfl)
                simp only [List.setIfInBounds_toArray, List.set_cons_zero, List.set_cons_succ]
                refine takeD (i := 13) (v := ?_) 148 rfl rfl ?_ ?_ ?_ (fun _ _ _ h => h) ?_ (by assumption) ?_
                rotate_left
                · kernel_rfl
                · kernel_rfl
                · kernel_rfl
                · refine Or.inl (And.intro ?_ ?_)
                  · rfl
                  · intro w hSw
                    try dsimp only at hSw
                    first | (go_simp; done) | (go_simp; with_reducible rfl)
                simp only [List.setIfInBounds_toArray, List.set_cons_zero, List.set_cons_succ]
                refine takeD (i := 14) (v := ?_) 149 rfl rfl ?_ ?_ ?_ (fun _ _ _ h => h) ?_ (by assumption) ?_
                rotate_left
                · kernel_rfl
                · kernel_rfl
                · kernel_rfl
                · refine Or.inl (And.intro ?_ ?_)
                  · rfl
                  · intro w hSw
                    try dsimp only at hSw
                    first | (go_simp; done) | (go_simp; with_reducible rfl)
                simp only [List.setIfInBounds_toArray, List.set_cons_zero, List.set_cons_succ]
                refine wpAnyH_ready (rs := [4]) (by kernel_rfl) (by simp) ?_
                refine AllReadyH.cons rfl (fun K hK => ?_) AllReadyH.nil
                go_simp
                refine hK.out _ _ ?_ (fun hHeld2 => ?_)
                · exact HK9.out _ ⟨(Kept.of_nw (n0 := 0) HNA.out).pts (by decide) HK1.out.1, (Kept.of_nw (n0 := 0) HNA.out).pts (by decide) HK1.out.2.1, HK1.out.2.2.nw HNA.out⟩
                have hHeld := hHeld2
                clear hHeld2 hK K
                refine wpAnyH_ready (rs := [7]) (by kernel_rfl) (by simp) ?_
                refine AllReadyH.cons rfl (fun K hK => ?_) AllReadyH.nil
                refine ready_if rfl ?_
                refine wp_append_pairs (.tmp 139) (.tmp 141) 43 rfl v1.heap.size 91 i1 (.agg #[.int .i64 0, .int .u64 0]) 16 Tryz.underlying43 hj91 hy0 hy1 hy2 rfl _ 0 [] rfl HRW.out la ln lc xl w.heap.size rfl HLN.out HXLA.out (by unfold maxLen; omega) (by omega) HSZ2.out ?_
                intro v6 w6 hown6 hgrow6
                have hn6 : Nw v1 w6 := ⟨Below.grownRow HNA.out.b hgrow6 HSZ2.out HRW.out (Nat.le_refl _)⟩
                clear hgrow6
                rw [Nat.zero_add, List.nil_append] at hown6
                obtain ⟨a6, c6, rfl⟩ := own_slice hown6
                have HOW6 := Lib.hid hown6
                have HN6 := Lib.hid hn6
                have hk6 := (⟨(Kept.of_nw (n0 := 0) hn6).pts (by decide) HK1.out.1, (Kept.of_nw (n0 := 0) hn6).pts (by decide) HK1.out.2.1, HK1.out.2.2.nw hn6⟩ : _ ∧ _ ∧ _)
                have HK6 := Lib.hid hk6
                have HSA6 := Lib.hid (HSA.out w6 hn6 a6 c6 (own_shp hown6) (own_prs HLN.out hown6) (own_wtag hown6))
                clear hown6 hn6 hk6
                go_simp
                refine hK.out _ _ ?_ (fun hHeld2 => ?_)
                · exact HK9.out _ HK6.out
                have hHeld := hHeld2
                clear hHeld2 hK K
                refine wpAnyH_ready (rs := [8]) (by kernel_rfl) (by simp) ?_
                refine AllReadyH.cons rfl (fun K hK => ?_) AllReadyH.nil
                go_simp
                go_wp2_with ((go_at_call 12; (with_reducible refine HSA6.out.mono ?_); rintro e w7 ⟨rfl, kp7, a7, s7⟩; have HS7 := Lib.hid s7; have HK7 := Lib.hid (And.intro s7.pa (And.intro s7.pb (kp7.blk _ _ _ hmv HK6.out.2.2))); clear kp7 s7))
                refine hK.out _ _ ?_ (fun hHeld2 => ?_)
                · exact HK9.out _ HK7.out
                have hHeld := hHeld2
                clear hHeld2 hK K
                refine wpAnyH_ready (rs := [15]) (by kernel_rfl) (by simp) ?_
                refine AllReadyH.cons rfl (fun K hK => ?_) AllReadyH.nil
                go_simp
                go_wp2_with ((go_at_call 13; (with_reducible refine (HSB.out HS7.out).mono ?_); rintro e w8 ⟨rfl, kp8, b8, s8⟩; have HS8 := Lib.hid s8; have HK8 := Lib.hid (And.intro s8.pa (And.intro s8.pb (kp8.blk _ _ _ hmv HK7.out.2.2))); clear kp8 s8))
                refine hK.out _ _ ?_ (fun hHeld2 => ?_)
                · exact HK9.out _ HK8.out
                have hHeld := hHeld2
                clear hHeld2 hK K
                refine takeD (i := 16) (v := ?_) 151 rfl rfl ?_ ?_ ?_ (fun _ _ _ h => h) ?_ (by assumption) ?_
                rotate_left
                · kernel_rfl
                · kernel_rfl
                · kernel_rfl
                · refine Or.inl (And.intro ?_ ?_)
                  · rfl
                  · intro w hSw
                    try dsimp only at hSw
                    first | (go_simp; done) | (go_simp; with_reducible rfl)
                simp only [List.setIfInBounds_toArray, List.set_cons_zero, List.set_cons_succ]
                refine takeD (i := 17) (v := ?_) 23 rfl rfl ?_ ?_ ?_ (fun _ _ _ h => h) ?_ (by assumption) ?_
                rotate_left
                · kernel_rfl
                · kernel_rfl
                · kernel_rfl
                · refine Or.inl (And.intro ?_ ?_)
                  · rfl
                  · intro w hSw
                    try dsimp only at hSw
                    first | (go_simp; done) | (go_simp; with_reducible rfl)
                simp only [List.setIfInBounds_toArray, List.set_cons_zero, List.set_cons_succ]
                refine wpAnyH_done (by kernel_rfl) ?_ _
                refine NoPanic.normal ?_
                go_wp2_with fail
                go_meet
                case rel => exact ⟨by simp, va', vc', rs', _, _, _, f, rfl, hvc, HS8.out, HOK.out⟩
            · as_aux_lemma =>
                obtain ⟨r, hr⟩ : ∃ r, rs'[k]? = some r := ⟨_, List.getElem?_eq_getElem (by rw [HS1.out.rl]; exact hkm)⟩
                obtain ⟨q, hq⟩ : ∃ q, qs[k]? = some q := ⟨_, List.getElem?_eq_getElem (by rw [HS1.out.ql]; exact hkm)⟩
                have HSA := Lib.hid (HS1.out.resumeA HG.out HO.out.u hkm hr)
                have HSB : Hid (∀ {W : World} {av : Nat → Option Addr} {L' : Nat → List St}, PlW w W g N m d db rd rb vb bx by_ qs va' rs' av bv L' L f f → _) := fun {W av L'} s => s.resumeB HG.out HO.out.u hkm hq
                have HQ2 : Hid (∀ {W : World} {av : Nat → Option Addr} {L' : Nat → List St}, PlW w W g N m d db rd rb vb bx by_ qs va' rs' av bv L' L f f → _) := fun {W av L'} s => s.cB hkm hq
                have HOK := Lib.hid (HO.out.run (k := k) (resS_ok (A := 264 + 208 * (k : Int)) (by omega) (by have := HG.out.a k hkm; omega) (by have := HG.out.a k hkm; omega) HG.out.nN hNl (HO.out.l k hkm) (seenA_u64 HO.out.u (HG.out.a k hkm))))
                have cA := HS1.out.cA hkm hr
                generalize hE1 : resB (L k) (seenA f (264 + 208 * k) 208) = B1 at *
                generalize hE2 : resE (L k) = E1 at *
                generalize hE3 : resS g (264 + 208 * (k : Int)) (L k) (seenA f (264 + 208 * k) 208) = M1 at *
                have hkI : (k : Int) < (m : Int) := by omega
                have hk0 : (0 : Int) ≤ (k : Int) := by omega
                have HKM := Lib.hid hkm
                clear hE1 hE2 hE3 hr hq y2 y3 y4 y5 y6 hkm
                go_wp2_with fail
                (with_reducible refine HSA.out.mono ?_)
                rintro e w4 ⟨rfl, kp4, a4, s4⟩
                have HS4 := Lib.hid s4
                have cB := HQ2.out s4
                clear kp4 s4 cA
                go_wp2_with fail
                (with_reducible refine (HSB.out HS4.out).mono ?_)
                rintro e w5 ⟨rfl, kp5, b5, s5⟩
                have HS5 := Lib.hid s5
                clear kp5 s5 cB
                go_wp2_with fail
                go_meet
                case rel => exact ⟨by simp, va', vc', rs', _, _, _, f, rfl, hvc, HS5.out, HOK.out⟩
            · as_aux_lemma =>
                have HSA := Lib.hid (fun (W : World) (u : Nw v1 W) => (HS1.out.nw u).storeA xat xv)
                have HSB : Hid (∀ {W : World} {h : Nat → Wd}, PlW w W g N m d db rd rb vb bx by_ qs va' rs' av bv L L (stoF N xat xv f) h → _) := fun {W h} s => s.storeB xat xv
                generalize hE : stoE N xat = E at *
                clear hE
                go_wp2_with fail
                go_region_held3 (fun w' => w'.cell? ⟨xb, 3, none⟩ = some (.int .i64 xat) ∧ w'.cell? ⟨xb, 4, none⟩ = some (.int .u64 xv))
                  (first | (have hh := HKX.out _ hkb; exact ⟨hh.2.1, hh.2.2.1⟩) | (have hh := HKX.out _ (HB.out.nw Nw.refl.drew); exact ⟨hh.2.1, hh.2.2.1⟩))
                  ((first
                    | (go_at_call 16; (with_reducible refine (HSA.out _ Nw.refl.drew).mono ?_); rintro e w4 ⟨rfl, kp4, s4⟩; have hkb := kp4.blk _ _ _ hmv (HB.out.nw Nw.refl.drew); have HS4 := Lib.hid s4; clear kp4 s4)
                    | (go_at_call 17; (with_reducible refine (HSB.out HS4.out).mono ?_); rintro e w5 ⟨rfl, kp5, s5⟩; have hkb := kp5.blk _ _ _ hmv hkb; have HS5 := Lib.hid s5; clear kp5 s5)))
                go_wp2_with fail
                go_meet
                case rel => exact ⟨by simp, va', vc', rs', av, bv, L, stoF N xat xv f, rfl, hvc, HS5.out, HO.out.store HAT.out HXV.out⟩
            · as_aux_lemma =>
                have HSA := Lib.hid (fun (W : World) (u : Nw v1 W) => (HS1.out.nw u).evictA xat)
                have HSB : Hid (∀ {W : World} {h : Nat → Wd}, PlW w W g N m d db rd rb vb bx by_ qs va' rs' av bv L L (eviF N xat f) h → _) := fun {W h} s => s.evictB xat
                generalize hE : eviE N xat = E at *
                clear hE
                go_wp2_with fail
                go_region_held3 (fun w' => w'.cell? ⟨xb, 3, none⟩ = some (.int .i64 xat))
                  (first | (have hh := HKX.out _ hkb; exact hh.2.1) | (have hh := HKX.out _ (HB.out.nw Nw.refl.drew); exact hh.2.1))
                  ((first
                    | (go_at_call 18; (with_reducible refine (HSA.out _ Nw.refl.drew).mono ?_); rintro e w4 ⟨rfl, kp4, s4⟩; have hkb := kp4.blk _ _ _ hmv (HB.out.nw Nw.refl.drew); have HS4 := Lib.hid s4; clear kp4 s4)
                    | (go_at_call 19; (with_reducible refine (HSB.out HS4.out).mono ?_); rintro e w5 ⟨rfl, kp5, s5⟩; have hkb := kp5.blk _ _ _ hmv hkb; have HS5 := Lib.hid s5; clear kp5 s5)))
                go_wp2_with fail
                go_meet
                case rel => exact ⟨by simp, va', vc', rs', av, bv, L, eviF N xat f, rfl, hvc, HS5.out, HO.out.evict xat⟩
            · as_aux_lemma =>
                have HSA := Lib.hid (HS1.out.crashA HO.out.s pa pn pc ps HPN.out o10 (by omega) HPU.out HPS.out)
                have HSB : Hid (∀ {W : World} {f' : Nat → Wd}, PlW w W g N m d db rd rb vb bx by_ qs va' rs' av bv L L f' f → _) := fun {W f'} s => s.crashB pa pn pc ps HPN.out HPU.out HPS.out
                have HOK := Lib.hid (HO.out.crash ps)
                have HL9 := Lib.hid (fun j hj => HO.out.l j hj)
                clear y2 y3 y4 y6
                go_wp2_with fail
                (with_reducible refine HSA.out.mono ?_)
                rintro e w4 ⟨⟨u4, rfl⟩, kp4, s4⟩
                have hb4 := kp4.blk _ _ _ hmv HB.out
                have HS4 := Lib.hid s4
                have y5 : w4.cell? ⟨xb, 5, none⟩ = some (.slice pa pn pc) := hb4.cell rfl
                clear kp4 s4 hb4
                go_wp2_with fail
                (with_reducible refine (HSB.out HS4.out).mono ?_)
                rintro e w5 ⟨⟨u5, rfl⟩, kp5, s5⟩
                have HS5 := Lib.hid s5
                have c0 : w5.cell? ⟨bx, 0, none⟩ = some (.int .i64 g.w) := s5.g1.cell rfl
                have c1 : w5.cell? ⟨bx, 1, none⟩ = some (.int .i64 g.i) := s5.g1.cell rfl
                have c2 : w5.cell? ⟨bx, 2, none⟩ = some (.int .i64 g.b) := s5.g1.cell rfl
                have HSN := Lib.hid (s5.newA HG.out)
                clear kp5 s5 y5
                go_wp2_with fail
                (with_reducible refine HSN.out.mono ?_)
                rintro e w6 ⟨va6, vc6, rs6, rfl, hvc6, hn6, s6⟩
                have HS6 := Lib.hid s6
                clear s6 hn6 c0 c1 c2
                go_wp2_with fail
                go_loopw [28] (fun i wq => ∃ (p : Nat) (bv : Nat → Option Addr), p ≤ m ∧ i = .int .i64 p ∧ PlW w wq g N m d db rd rb vb bx by_ qs va6 rs6 (fun _ => none) bv (fun _ => []) (clrTo p L) (crR ps f) (crR ps f)) (fun i _ => m - (intOf i).toNat)
                case atStart => exact ⟨0, bv, Nat.zero_le _, rfl, by rw [clrTo_zero]; exact HS6.out⟩
                case round =>
                  obtain ⟨p, bv7, hp, rfl, hS⟩ := hrel
                  have HS7 := Lib.hid hS
                  have c0 : wr.cell? ⟨bx, 0, none⟩ = some (.int .i64 g.w) := hS.g1.cell rfl
                  clear hS
                  by_cases hpm : p < m
                  · have hpI : (p : Int) < g.w := by rw [HGW.out]; omega
                    have hpJ : (p : Int) < (m : Int) := by omega
                    have hp0 : (0 : Int) ≤ (p : Int) := by omega
                    obtain ⟨q, hq⟩ : ∃ q, qs[p]? = some q := ⟨_, List.getElem?_eq_getElem (by rw [HS7.out.ql]; exact hpm)⟩
                    have cB := HS7.out.cB hpm hq
                    have hf5 : wr.frozen? ⟨q, 5, none⟩ = false := HS7.out.fB hpm hq
                    obtain ⟨c5v, hc5⟩ := HS7.out.sB hpm hq
                    have HC := Lib.hid (HS7.out.clearB hpm hq).1
                    rw [clrTo_succ] at HC
                    clear hq
                    go_wp2_with fail
                    go_roundw
                    case rel => exact ⟨p + 1, _, by omega, by go_num, HC.out⟩
                    case measure => simp [intOf]; omega
                  · obtain rfl : p = m := by omega
                    have hpI : ¬ (p : Int) < g.w := by rw [HGW.out]; omega
                    go_wp2_with fail
                    go_meet
                    case rel => exact ⟨rfl, va6, vc6, rs6, _, bv7, fun _ => [], crR ps f, rfl, hvc6, HS7.out.clr, HOK.out⟩
            · as_aux_lemma =>
                obtain ⟨r, hr⟩ : ∃ r, rs'[k]? = some r := ⟨_, List.getElem?_eq_getElem (by rw [HS1.out.rl]; exact hkm)⟩
                obtain ⟨q, hq⟩ : ∃ q, qs[k]? = some q := ⟨_, List.getElem?_eq_getElem (by rw [HS1.out.ql]; exact hkm)⟩
                have HR := Lib.hid hr
                have HQ' := Lib.hid hq
                have hkI : (k : Int) < (m : Int) := by omega
                have hk0 : (0 : Int) ≤ (k : Int) := by omega
                have z3 : ((z : Int) == 3) = false := by rw [beq_eq_false_iff_ne]; omega
                have z4 : ((z : Int) == 4) = false := by rw [beq_eq_false_iff_ne]; omega
                have z5 : ((z : Int) == 5) = false := by rw [beq_eq_false_iff_ne]; omega
                have z6 : ((z : Int) == 6) = false := by rw [beq_eq_false_iff_ne]; omega
                have z7 : ((z : Int) == 7) = false := by rw [beq_eq_false_iff_ne]; omega
                clear hr hq y2 y3 y4 y5 y6
                go_wp2_with fail
                go_loopw [29, 23] (fun i s wq => ∃ (p : Nat) (av bv : Nat → Option Addr) (L : Nat → List St) (f : Nat → Wd), p ≤ many + 1 ∧ i = .int .i64 p ∧ s = .bool true ∧ Blk wq xb #[.int .u8 dw, .int .u8 who, .slice la ln lc, .int .i64 xat, .int .u64 xv, .slice pa pn pc, .int .u8 many] 47 ∧ PlW w wq g N m d db rd rb vb bx by_ qs va' rs' av bv L L f f ∧ PlOk N m L f) (fun i _ _ => many + 1 - (intOf i).toNat)
                case atStart => exact ⟨0, av, bv, L, f, Nat.zero_le _, rfl, rfl, HB.out, HS1.out, HO.out⟩
                case round =>
                  obtain ⟨p, av7, bv7, L7, f7, hp, rfl, rfl, hb7, hS, hO⟩ := hrel
                  have HS7 := Lib.hid hS
                  have HO7 := Lib.hid hO
                  have HB7 := Lib.hid hb7
                  have y6 : wr.cell? ⟨xb, 6, none⟩ = some (.int .u8 many) := hb7.cell rfl
                  clear hS hO hb7
                  by_cases hpm : p ≤ many
                  · have hpI : (p : Int) ≤ (many : Int) := by omega
                    have HSA := Lib.hid (HS7.out.stepA hkm (HO7.out.l k hkm) HR.out)
                    have HSB : Hid (∀ {W : World} {av : Nat → Option Addr} {L' : Nat → List St} {f' : Nat → Wd}, PlW w W g N m d db rd rb vb bx by_ qs va' rs' av bv7 L' L7 f' f7 → _) := fun {W av L' f'} s => s.stepB hkm (HO7.out.l k hkm) HQ'.out
                    have HQ2 : Hid (∀ {W : World} {av : Nat → Option Addr} {L' : Nat → List St} {f' : Nat → Wd}, PlW w W g N m d db rd rb vb bx by_ qs va' rs' av bv7 L' L7 f' f7 → _) := fun {W av L' f'} s => s.cB hkm HQ'.out
                    have HOK := Lib.hid (HO7.out.step hkm)
                    have HSM := Lib.hid (stp_same HO7.out.s (L7 k))
                    have cA := HS7.out.cA hkm HR.out
                    obtain ⟨ph, hph, hph6⟩ : ∃ ph : Nat, phaseOf (L7 k) = (ph : Int) ∧ ph ≤ 6 := by
                      have := (HO7.out.l k hkm).phase
                      exact ⟨(phaseOf (L7 k)).toNat, by omega, by omega⟩
                    rw [hph] at HSA HSB
                    generalize hE2 : stpE (L7 k) = E1 at *
                    clear hE2 hph
                    go_wp2_with fail
                    (with_reducible refine HSA.out.mono ?_)
                    rintro e w4 ⟨rfl, kp4, a4, s4⟩
                    have HS4 := Lib.hid s4
                    have HB4 := Lib.hid (kp4.blk _ _ _ hmv HB7.out)
                    have cB := HQ2.out s4
                    clear kp4 s4 cA y6
                    go_wp2_with fail
                    (with_reducible refine (HSB.out HS4.out).mono ?_)
                    rintro e w5 ⟨rfl, kp5, b5, s5⟩
                    have HS5 := Lib.hid (s5.same (fun _ _ => rfl) HSM.out)
                    have HB5 := Lib.hid (kp5.blk _ _ _ hmv HB4.out)
                    clear kp5 s5 cB
                    go_wp2_with fail
                    go_roundw
                    case rel => exact ⟨p + 1, _, _, _, _, by omega, by go_num, by simp, HB5.out, HS5.out, HOK.out⟩
                    case measure => simp [intOf]; omega
                  · have hpI : ¬ (p : Int) ≤ (many : Int) := by omega
                    go_wp2_with fail
                    go_meet
                    case rel => exact ⟨rfl, va', vc', rs', av7, bv7, L7, f7, rfl, hvc, HS7.out, HO7.out⟩
          case rest =>
            obtain ⟨rfl, va2, vc2, rs2, av2, bv2, L2, f2, rfl, hvc2, hS2, hO2⟩ := hcut
            have HS2 := Lib.hid hS2
            have HO2 := Lib.hid hO2
            clear hS2 hO2
            as_aux_lemma =>
              obtain ⟨r, hr⟩ : ∃ r, rs2[k]? = some r := ⟨_, List.getElem?_eq_getElem (by rw [HS2.out.rl]; exact hkm)⟩
              obtain ⟨q, hq⟩ : ∃ q, qs[k]? = some q := ⟨_, List.getElem?_eq_getElem (by rw [HS2.out.ql]; exact hkm)⟩
              obtain ⟨ph, hph, hph6⟩ : ∃ ph : Nat, phaseOf (L2 k) = (ph : Int) ∧ ph ≤ 6 := by
                have := (HO2.out.l k hkm).phase
                exact ⟨(phaseOf (L2 k)).toNat, by omega, by omega⟩
              have hLk := (HO2.out.l k hkm).1
              have HPA := Lib.hid (fun n => (HS2.out.nw (Nw.refl.drewN n)).phaseA hkm hr hLk)
              have HPB := Lib.hid (fun n => (HS2.out.nw (Nw.refl.drewN n)).phaseB hkm hq hLk)
              have HLE := Lib.hid (fun n => (HS2.out.nw (Nw.refl.drewN n)).leftA hkm hr hLk)
              obtain ⟨sa, sc, hc5⟩ := HS2.out.leftB hkm hq
              obtain ⟨T, hT⟩ : ∃ T, (L2 k).length = T := ⟨_, rfl⟩
              rw [hph] at HPA HPB
              rw [hT] at HLE hc5 hLk
              have cA := HS2.out.cA hkm hr
              have cB := HS2.out.cB hkm hq
              have hkI : (k : Int) < (m : Int) := by omega
              have hk0 : (0 : Int) ≤ (k : Int) := by omega
              clear hT hph hr hq hzr
              go_wp2_with fail
              go_quiet ((first
                | (go_at_call 24; exact quiet_left (HPA.out _))
                | (go_at_call 25; exact quiet_left (HPB.out _))
                | (go_at_call 26; exact quiet_left (HLE.out _))))
              go_wp2_with fail
              go_roundw
              case rel => exact ⟨j + 1, va2, vc2, rs2, av2, bv2, L2, f2, by omega, by go_num, rfl, hvc2, HS2.out.nw (Nw.refl.drewN _), HO2.out⟩
              case measure => simp [intOf]; omega
        · obtain rfl : j = len := by omega
          as_aux_lemma =>
            clear HIW HQ HL HSZ
            obtain ⟨S, hSe⟩ : ∃ S, rowL (·.seen) f N = S := ⟨_, rfl⟩
            obtain ⟨U, hUe⟩ : ∃ U, rowL (·.sure) f N = U := ⟨_, rfl⟩
            have hSl : S.length = N := by rw [← hSe]; exact rowL_length _ _ _
            have hUl : U.length = N := by rw [← hUe]; exact rowL_length _ _ _
            have HSE := Lib.hid (fun (W : World) (u : Nw wr W) => row_call hSl (by have := seen_any d db N f W (HS.out.p.D.nw u); rw [hSe] at this; exact this))
            have HUE := Lib.hid (fun (W : World) (u : Nw wr W) => row_call hUl (by have := sure_any d db N f W (HS.out.p.D.nw u); rw [hUe] at this; exact this))
            have HRS := Lib.hid (fun (W : World) (u : Nw wr W) => row_call hSl (by have := rseen_any rd rb N f W (HS.out.p.R.nw u); rw [hSe] at this; exact this))
            have HRU := Lib.hid (fun (W : World) (u : Nw wr W) => row_call hUl (by have := rsure_any rd rb N f W (HS.out.p.R.nw u); rw [hUe] at this; exact this))
            have hSu : ∀ x ∈ S, Go.Proofs.YtkopfnldgnkkoaaGreat.u64 x := by rw [← hSe]; exact HO.out.u.row (fun x hx => hx.2.1)
            have hUu : ∀ x ∈ U, Go.Proofs.YtkopfnldgnkkoaaGreat.u64 x := by rw [← hUe]; exact HO.out.u.row (fun x hx => hx.1)
            have HOS := Lib.hid (fun (W : World) (a : Option Addr) (c : Nat) (hI : Ints W.heap.size .u64 W a S) (hc : N ≤ c) => over_call HG.out hSl hSu W a c hI hc)
            have HOU := Lib.hid (fun (W : World) (a : Option Addr) (c : Nat) (hI : Ints W.heap.size .u64 W a U) (hc : N ≤ c) => over_call HG.out hUl hUu W a c hI hc)
            have HPS := Lib.hid (fun (W : World) (a : Option Addr) (c : Nat) (hI : Ints W.heap.size .u64 W a S) (hc : N ≤ c) => rover_call HG.out hSl hSu W a c hI hc)
            have HPU := Lib.hid (fun (W : World) (a : Option Addr) (c : Nat) (hI : Ints W.heap.size .u64 W a U) (hc : N ≤ c) => rover_call HG.out hUl hUu W a c hI hc)
            have hOSl : (overL g S).length = N := by rw [overL_len' (by rw [hSl]; exact HG.out.ov)]; exact hSl
            have hOUl : (overL g U).length = N := by rw [overL_len' (by rw [hUl]; exact HG.out.ov)]; exact hUl
            generalize overL g S = OS at *
            generalize overL g U = OU at *
            have HM1 := Lib.hid (fun (W : World) (a1 a2 : Option Addr) (c1 c2 : Nat) => same_call (N := N) (by omega) hSl W a1 a2 c1 c2)
            have HM2 := Lib.hid (fun (W : World) (a1 a2 : Option Addr) (c1 c2 : Nat) => same_call (N := N) (by omega) hUl W a1 a2 c1 c2)
            have HM3 := Lib.hid (fun (W : World) (a1 a2 : Option Addr) (c1 c2 : Nat) => same_call (N := N) (by omega) hOSl W a1 a2 c1 c2)
            have HM4 := Lib.hid (fun (W : World) (a1 a2 : Option Addr) (c1 c2 : Nat) => same_call (N := N) (by omega) hOUl W a1 a2 c1 c2)
            have HN := Lib.hid HS.out.n
            have HGB := Lib.hid (And.intro HS.out.g1 HS.out.g2)
            clear hSe hUe hSl hUl hSu hUu hOSl hOUl HS HO
            go_wp2_with fail
            (with_reducible refine (HSE.out _ Nw.refl).mono ?_)
            rintro e w4 ⟨sa, sc, rfl, hsI, hsN, hsc⟩
            have HSI := Lib.hid hsI
            have HN4 := Lib.hid hsN
            clear hsI hsN
            go_wp2_with fail
            (with_reducible refine (HUE.out _ HN4.out).mono ?_)
            rintro e w5 ⟨ua, uc, rfl, huI, huN, huc⟩
            have HUI := Lib.hid huI
            have HSI5 := Lib.hid (Ints.nw (n := 0) huN HSI.out)
            have HN5 := Lib.hid (HN4.out.trans huN)
            have HK9 := Lib.hid (fun (W : World) (u : Nw w5 W) => (⟨(HGB.out.1.nw (HN5.out.trans u)).cell rfl, (HGB.out.1.nw (HN5.out.trans u)).cell rfl, (HGB.out.1.nw (HN5.out.trans u)).cell rfl, (HGB.out.2.nw (HN5.out.trans u)).cell rfl, (HGB.out.2.nw (HN5.out.trans u)).cell rfl, (HGB.out.2.nw (HN5.out.trans u)).cell rfl⟩ : W.cell? ⟨bx, 0, none⟩ = some (.int .i64 g.w) ∧ W.cell? ⟨bx, 1, none⟩ = some (.int .i64 g.i) ∧ W.cell? ⟨bx, 2, none⟩ = some (.int .i64 g.b) ∧ W.cell? ⟨by_, 0, none⟩ = some (.int .i64 g.w) ∧ W.cell? ⟨by_, 1, none⟩ = some (.int .i64 g.i) ∧ W.cell? ⟨by_, 2, none⟩ = some (.int .i64 g.b)))
            obtain ⟨c0, c1, c2, d0, d1, d2⟩ := HK9.out w5 Nw.refl
            clear huI huN HSI HN4 HSE HUE
            go_wp2_with fail
            go_region_held3 (fun w' => w'.cell? ⟨bx, 0, none⟩ = some (.int .i64 g.w) ∧ w'.cell? ⟨bx, 1, none⟩ = some (.int .i64 g.i) ∧ w'.cell? ⟨bx, 2, none⟩ = some (.int .i64 g.b) ∧ w'.cell? ⟨by_, 0, none⟩ = some (.int .i64 g.w) ∧ w'.cell? ⟨by_, 1, none⟩ = some (.int .i64 g.i) ∧ w'.cell? ⟨by_, 2, none⟩ = some (.int .i64 g.b))
              (first | (exact HK9.out _ hk9) | (exact HK9.out _ Nw.refl.drew))
              ((first
                | (go_at_call 30; (with_reducible refine (HRS.out _ (HN5.out.trans Nw.refl.drew)).mono ?_); rintro e w9 ⟨ra, rc, rfl, hrI, hrN, hrc⟩; have hk9 := (Nw.refl (w := w5)).drew.trans hrN)
                | (go_at_call 29; (with_reducible refine (HM1.out _ sa ra sc rc (Ints.nw (n := 0) hk9 HSI5.out) hrI).mono ?_); rintro e w10 ⟨rfl, hn10⟩; have hk9 := hk9.trans hn10)
                | (go_at_call 31; (with_reducible refine (HRU.out _ (HN5.out.trans hk9)).mono ?_); rintro e w11 ⟨ra2, rc2, rfl, hrI2, hrN2, hrc2⟩; have hk9 := hk9.trans hrN2)
                | (go_at_call 29; (with_reducible refine (HM2.out _ ua ra2 uc rc2 (Ints.nw (n := 0) hk9 HUI.out) hrI2).mono ?_); rintro e w12 ⟨rfl, hn12⟩; have hk9 := hk9.trans hn12)
                | (go_at_call 32; (with_reducible refine (HOS.out _ sa sc (Ints.nw (n := 0) hk9 HSI5.out) hsc).mono ?_); rintro e w13 ⟨oa, oc, rfl, hoI, hoN⟩; have hk9 := hk9.trans hoN)
                | (go_at_call 33; (with_reducible refine (HPS.out _ sa sc (Ints.nw (n := 0) hk9 HSI5.out) hsc).mono ?_); rintro e w14 ⟨pa, pc, rfl, hpI, hpN⟩; have hk9 := hk9.trans hpN; have hoI := Ints.nw (n := 0) hpN hoI)
                | (go_at_call 29; (with_reducible refine (HM3.out _ oa pa oc pc hoI hpI).mono ?_); rintro e w15 ⟨rfl, hn15⟩; have hk9 := hk9.trans hn15)
                | (go_at_call 32; (with_reducible refine (HOU.out _ ua uc (Ints.nw (n := 0) hk9 HUI.out) huc).mono ?_); rintro e w16 ⟨oa2, oc2, rfl, hoI2, hoN2⟩; have hk9 := hk9.trans hoN2)
                | (go_at_call 33; (with_reducible refine (HPU.out _ ua uc (Ints.nw (n := 0) hk9 HUI.out) huc).mono ?_); rintro e w17 ⟨pa2, pc2, rfl, hpI2, hpN2⟩; have hk9 := hk9.trans hpN2; have hoI2 := Ints.nw (n := 0) hpN2 hoI2)
                | (go_at_call 29; (with_reducible refine (HM4.out _ oa2 pa2 oc2 pc2 hoI2 hpI2).mono ?_); rintro e w18 ⟨rfl, hn18⟩; have hk9 := hk9.trans hn18)
                | (go_at_call 6; (with_reducible refine (works_any _).mono ?_); rintro e w19 ⟨rfl, hn19⟩; have hk9 := hk9.trans hn19)))
            have HK := Lib.hid (HN5.out.trans hk9)
            clear hk9 c0 c1 c2 d0 d1 d2
            go_wp2_with fail
            go_ret
            exact ⟨rfl, (HN.out.trans HK.out).b⟩
end Go.Proofs.YtkopfnldgnkkoaaGreat
