/-
  ITEMS IN MEMORY; THE WALK OF OctetCut.
-/
import Derived.Test.YtciagdechmkgjaaOctR
import Derived.Test.YtciagdechmkgjaaOpen
namespace Go.Proofs.Ytciagdechmkgjaa
open Go.RowKit Go.Shelf
set_option linter.unusedVariables false

def itC (x : It) : List Value := [.bool x.is, .int .u64 x.n, .string x.s]
theorem items_of {H : Type} {enc : TypeId × Value → H} {P : Program} {w : World} {base : Nat} {spare : Nat → Bool} {held : Bool} {fs : Array Field} {f0 f1 f2 : Field} (h0 : fs[0]? = some f0) (h1 : fs[1]? = some f1) (h2 : fs[2]? = some f2) (hn : fs.size = 3)
    (u0 : P.underlying f0.type = some .bool) (u1 : P.underlying f1.type = some (.int .u64)) (u2 : P.underlying f2.type = some .string) {a : Option Addr} {len : Nat}
    (h : len = 0 ∨ ∃ b off, a = some ⟨b, off, none⟩ ∧ b < w.heap.size ∧ ∀ i, i < len → RecAt enc P w base spare held fs b off i) :
    ∃ ss : List It, ss.length = len ∧ Recs itC 3 w.heap.size w a ss ∧ ∀ x ∈ ss, itOk x ∧ x.s.size ≤ 9223372036854775807 :=
  recs_make itC 3 w.heap.size w a len (fun x => itOk x ∧ x.s.size ≤ 9223372036854775807) (by
    rcases h with h | ⟨b, off, e, hb, hi⟩
    · exact .inl h
    · refine .inr ⟨b, off, e, hb, fun i hil => ?_⟩
      obtain ⟨v0, n0, y0, c0, t0⟩ := hi i hil 0 f0 h0
      obtain ⟨v1, n1, y1, c1, t1⟩ := hi i hil 1 f1 h1
      obtain ⟨v2, n2, y2, c2, t2⟩ := hi i hil 2 f2 h2
      obtain ⟨z0, q0, _⟩ := DataW.trod_bool u0 t0
      obtain ⟨z1, q1, _, g1⟩ := DataW.trod_int u1 t1
      obtain ⟨z2, q2, _, g2⟩ := DataW.trod_string u2 t2
      obtain rfl : v0 = .bool z0 := by simpa using q0
      obtain rfl : v1 = .int .u64 z1 := by simpa using q1
      obtain rfl : v2 = .string z2 := by simpa using q2
      rw [hn] at c0 c1 c2
      refine ⟨⟨z0, z1, z2⟩, ⟨u64_of_wf g1, by unfold maxLen at g2; omega⟩, fun j v hv => ?_⟩
      match j, hv with
      | 0, hv => simp [itC] at hv; subst hv; exact c0
      | 1, hv => simp [itC] at hv; subst hv; exact c1
      | 2, hv => simp [itC] at hv; subst hv; exact c2)
theorem items_at {n₀ : Nat} {W : World} {a : Option Addr} {ss : List It} (h : Recs itC 3 n₀ W a ss) {k : Nat} (hk : k < ss.length) : ∃ b off, a = some ⟨b, off, none⟩ ∧ b < n₀ ∧ W.cell? ⟨b, off + k * 3, none⟩ = some (.bool ss[k].is) ∧ W.cell? ⟨b, off + k * 3 + 1, none⟩ = some (.int .u64 ss[k].n) ∧ W.cell? ⟨b, off + k * 3 + 2, none⟩ = some (.string ss[k].s) := by
  rcases h with rfl | ⟨b, off, rfl, hb, hc⟩
  · simp at hk
  · exact ⟨b, off, rfl, hb, hc k hk 0 _ rfl, hc k hk 1 _ rfl, hc k hk 2 _ rfl⟩
theorem info_int : (Try.prog.info? 3).map (fun i => (i.zero, i.size, i.bytes)) = some (some (.int .i64 0), 1, 8) := by kernel_rfl
theorem itsL_byte (l : List It) (h : ∀ x ∈ l, itOk x) (hs : ∀ x ∈ l, x.s.size ≤ 1024) : ∀ c ∈ itsL l, isByte c := by
  intro c hc
  simp only [itsL, List.mem_flatMap] at hc
  obtain ⟨x, hx, hc⟩ := hc
  exact itL_byte x (h x hx) (by have := hs x hx; omega) c hc
/-- Where the first k items end, each. -/
def endsL (l : List It) (k : Nat) : List Int := (List.range k).map fun i => ((endOf l (i + 1) : Nat) : Int)
theorem endsL_snoc (l : List It) (k : Nat) : endsL l (k + 1) = endsL l k ++ [((endOf l (k + 1) : Nat) : Int)] := by simp [endsL, List.range_succ]
theorem endsL_length (l : List It) (k : Nat) : (endsL l k).length = k := by simp [endsL]
theorem mem_take {α : Type} {l : List α} {k : Nat} {x : α} (h : x ∈ l.take k) : x ∈ l := List.mem_of_mem_take h

theorem own_apart {w : World} {b1 b2 : Nat} {e1 e2 : TypeId} {s1 s2 : Nat} {v1 v2 : Value} {n1 n2 : Nat} {x1 x2 : List Value} (h1 : w.ownsRow b1 e1 s1 v1 n1 x1) (h2 : w.ownsRow b2 e2 s2 v2 n2 x2) (he : e1 ≠ e2) : v1.ownBlock = none ∨ v1.ownBlock ≠ v2.ownBlock := by
  rcases h1.2 with ⟨h, _⟩ | ⟨g1, c1, cur1, rfl, _, hh1, _⟩
  · exact .inl (by rw [h]; rfl)
  · refine .inr ?_
    rcases h2.2 with ⟨rfl, _⟩ | ⟨g2, c2, cur2, rfl, _, hh2, _⟩
    · simp [Value.ownBlock]
    · intro e
      obtain rfl : g1 = g2 := by simpa [Value.ownBlock] using e
      rw [hh1] at hh2
      simp at hh2
      exact he hh2.2

set_option maxRecDepth 100000 in
set_option maxHeartbeats 8000000 in
theorem walk_cut (a0 : Option Addr) (len0 cap0 : Nat) (l : List It) (hl : l.length = len0) (hlm : len0 ≤ 9223372036854775807) (hok : ∀ x ∈ l, itOk x ∧ x.s.size ≤ 9223372036854775807) (cut : Nat) (hcut : cut ≤ 65535)
    (w : World) (hI : Recs itC 3 w.heap.size w a0 l) :
    Calls Try.prog 7 #[.slice a0 len0 cap0, .int .u16 (cut : Int)] w fun e w' => e = .returned (.bool true) ∧ Below w.heap.size w w' := by
  by_cases hbig : 60 < len0
  · clear hok hI hl
    go_enter Try.func7, Try.ntmps7
    go_wp2_with fail
    refine (works_any _).mono ?_
    rintro e w1 ⟨rfl, hN⟩
    go_wp2_with fail
    go_ret
    exact ⟨rfl, hN.b⟩
  obtain ⟨i0, hi, hz0, hz1, hz2⟩ := info_parts8 info_int
  have hl60 : len0 ≤ 60 := by omega
  have HL := Lib.hid hl
  have HOK := Lib.hid hok
  have HI := Lib.hid hI
  clear hl hok hI hbig
  go_enter Try.func7, Try.ntmps7
  go_wp2_with fail
  go_loopw [5, 6, 7] (fun b en i wr => ∃ (k : Nat) (a : Option Addr) (c : Nat), k ≤ len0 ∧ i = .int .i64 k ∧ b = .slice a (endOf l k) c ∧ wr.ownsRow w.heap.size 5 1 (.slice a (endOf l k) c) (endOf l k) ((itsL (l.take k)).map (.int .u8)) ∧ wr.ownsRow w.heap.size 3 1 en k ((endsL l k).map (.int .i64)) ∧ Below w.heap.size w wr ∧ (∀ x ∈ l.take k, x.s.size ≤ 1024) ∧ endOf l k ≤ k * 1033 ∧ endOf l k ≤ c) (fun _ _ i _ => len0 - (intOf i).toNat)
  case atStart => exact ⟨0, none, 0, Nat.zero_le _, rfl, rfl, ⟨rfl, .inl ⟨rfl, rfl⟩⟩, ⟨rfl, .inl ⟨rfl, rfl⟩⟩, Below.refl _ _, by simp, by simp [endOf, itsL], by simp [endOf, itsL]⟩
  case round =>
  obtain ⟨k, a, c, hk, rfl, rfl, hob, hen, hB, hsz, hel, hec⟩ := hrel
  have HOB := Lib.hid hob
  have HEN := Lib.hid hen
  have HB := Lib.hid hB
  have HSZ := Lib.hid hsz
  clear hob hen hB hsz
  by_cases hlt : k < len0
  · have hkl : k < l.length := by rw [HL.out]; exact hlt
    obtain ⟨ib, io, rfl, hib, hc0, hc1, hc2⟩ := items_at HI.out hkl
    have g0 := (HB.out.cell (p := ⟨ib, io + k * 3, none⟩) hib).trans hc0
    have g1 := (HB.out.cell (p := ⟨ib, io + k * 3 + 1, none⟩) hib).trans hc1
    have g2 := (HB.out.cell (p := ⟨ib, io + k * 3 + 2, none⟩) hib).trans hc2
    obtain ⟨hxo, hxs⟩ := HOK.out l[k] (List.getElem_mem hkl)
    have HES := Lib.hid (endOf_succ l k hkl)
    have HTS := Lib.hid (take_snoc' l k hkl)
    obtain ⟨x, hx⟩ : ∃ x, l[k] = x := ⟨_, rfl⟩
    rw [hx] at g0 g1 g2 hxo hxs HES HTS
    have HXO := Lib.hid hxo
    clear hx hc0 hc1 hc2 hxo
    by_cases hs1 : 1024 < x.s.size
    · go_wp2_with fail
      refine (works_any _).mono ?_
      rintro e w1 ⟨rfl, hN⟩
      go_wp2_with fail
      go_ret
      exact ⟨rfl, HB.out.trans (hN.b.mono HB.out.size)⟩
    have HIL := Lib.hid (itL_len x HXO.out (by omega))
    have HEL : Hid ((itsL (l.take k)).length = endOf l k) := rfl
    have HIb : Hid (Ints wr.heap.size .u8 wr a (itsL (l.take k))) := by
      obtain ⟨a', c', e, _, hI⟩ := Ints.of_owns HOB.out
      simp only [Value.slice.injEq] at e
      obtain ⟨rfl, _, rfl⟩ := e
      exact hI
    cases hxi : x.is
    · rw [hxi] at g0
      have HXI := Lib.hid hxi
      obtain ⟨xn, hxn⟩ : ∃ xn : Nat, x.n = (xn : Int) := ⟨x.n.toNat, by have := HXO.out.1; omega⟩
      rw [hxn] at g1
      have hn64 : (xn : Int) ≤ 18446744073709551615 := by have := HXO.out.2; omega
      have HXN := Lib.hid hxn
      have HITL : Hid (itL x = numL xn) := by show _ = _; unfold itL; rw [HXI.out, HXN.out]; simp
      clear hxi hxn
      go_wp2_with fail
      refine (number_any a _ c _ HEL.out (by omega) xn hn64 _ HIb.out).mono ?_
      intro e w1 h1
      obtain ⟨v1, rfl, ho1, hN1⟩ := h1
      obtain ⟨a1, c1, rfl⟩ := own_slice ho1
      have hc1 := own_cap ho1
      rw [← HITL.out, ← itsL_snoc, ← HTS.out] at ho1 hc1 ⊢
      have HE1 : Hid ((itsL (l.take (k + 1))).length = endOf l (k + 1)) := rfl
      rw [HE1.out] at ho1 hc1 ⊢
      have ho1 := own_base HB.out.size ho1
      have hb1 := HB.out.trans (hN1.b.mono HB.out.size)
      have hsb := hb1.size
      have hown1 := own_below hN1.b HEN.out
      have HAP := Lib.hid (own_apart ho1 hown1 (by decide))
      have HO1 := Lib.hid ho1
      have HB1 := Lib.hid hb1
      have HSN := Lib.hid (endsL_snoc l k)
      have hes : endOf l (k + 1) ≤ (k + 1) * 1033 := by have := HES.out; have := HIL.out; omega
      obtain ⟨E, hE⟩ : ∃ E, endOf l (k + 1) = E := ⟨_, rfl⟩
      rw [hE] at hc1 hes HSN HO1 HAP ⊢
      have HEE := Lib.hid hE
      clear hN1 hE ho1 hb1
      go_wp2_with (at_builtin; go_loud (refine wpList_append_ints _ rfl _ _ 49 rfl w.heap.size 3 i0 (.int .i64 0) 8 Try.underlying49 hi hz0 hz1 hz2 rfl _ _ _ rfl (hown1.alloc _) _ 1 1 .i64 [(E : Int)] _ rfl rfl (Ints.one _ _ _ _) (by unfold maxLen; omega) (by omega) (by simp; omega) ?_); intro v2 w2 hown2 hgrow2; go_loud (have hb2 : Below w.heap.size w w2 := Below.grownRow (HB1.out.alloc HB1.out.size _) hgrow2 (by simp; omega) (hown1.alloc _) (Nat.le_refl _)); go_loud (have ho2 := (HO1.out.alloc _).kept hgrow2 HAP.out); clear hgrow2; go_loud (rw [← List.map_append, ← HSN.out] at hown2))
      go_roundw
      case rel => exact ⟨k + 1, a1, c1, by omega, by go_num, by rw [HEE.out], by rw [HEE.out]; exact ho2, hown2, hb2, fun y hy => by rw [HTS.out] at hy; rcases List.mem_append.1 hy with h | h; exact HSZ.out y h; simp at h; subst h; omega, by rw [HEE.out]; omega, by rw [HEE.out]; exact hc1⟩
      case measure => simp [intOf]; omega
    · rw [hxi] at g0
      have HXI := Lib.hid hxi
      have HITL : Hid (itL x = numL x.s.size ++ strB x.s) := by show _ = _; unfold itL; rw [HXI.out]; simp
      clear hxi
      go_wp2_with fail
      refine (text_any a _ c _ x.s HEL.out (by omega) _ HIb.out).mono ?_
      intro e w1 h1
      obtain ⟨v1, rfl, ho1, hN1⟩ := h1
      obtain ⟨a1, c1, rfl⟩ := own_slice ho1
      have hc1 := own_cap ho1
      rw [← HITL.out, ← itsL_snoc, ← HTS.out] at ho1 hc1 ⊢
      have HE1 : Hid ((itsL (l.take (k + 1))).length = endOf l (k + 1)) := rfl
      rw [HE1.out] at ho1 hc1 ⊢
      have ho1 := own_base HB.out.size ho1
      have hb1 := HB.out.trans (hN1.b.mono HB.out.size)
      have hsb := hb1.size
      have hown1 := own_below hN1.b HEN.out
      have HAP := Lib.hid (own_apart ho1 hown1 (by decide))
      have HO1 := Lib.hid ho1
      have HB1 := Lib.hid hb1
      have HSN := Lib.hid (endsL_snoc l k)
      have hes : endOf l (k + 1) ≤ (k + 1) * 1033 := by have := HES.out; have := HIL.out; omega
      obtain ⟨E, hE⟩ : ∃ E, endOf l (k + 1) = E := ⟨_, rfl⟩
      rw [hE] at hc1 hes HSN HO1 HAP ⊢
      have HEE := Lib.hid hE
      clear hN1 hE ho1 hb1
      go_wp2_with (at_builtin; go_loud (refine wpList_append_ints _ rfl _ _ 49 rfl w.heap.size 3 i0 (.int .i64 0) 8 Try.underlying49 hi hz0 hz1 hz2 rfl _ _ _ rfl (hown1.alloc _) _ 1 1 .i64 [(E : Int)] _ rfl rfl (Ints.one _ _ _ _) (by unfold maxLen; omega) (by omega) (by simp; omega) ?_); intro v2 w2 hown2 hgrow2; go_loud (have hb2 : Below w.heap.size w w2 := Below.grownRow (HB1.out.alloc HB1.out.size _) hgrow2 (by simp; omega) (hown1.alloc _) (Nat.le_refl _)); go_loud (have ho2 := (HO1.out.alloc _).kept hgrow2 HAP.out); clear hgrow2; go_loud (rw [← List.map_append, ← HSN.out] at hown2))
      go_roundw
      case rel => exact ⟨k + 1, a1, c1, by omega, by go_num, by rw [HEE.out], by rw [HEE.out]; exact ho2, hown2, hb2, fun y hy => by rw [HTS.out] at hy; rcases List.mem_append.1 hy with h | h; exact HSZ.out y h; simp at h; subst h; omega, by rw [HEE.out]; omega, by rw [HEE.out]; exact hc1⟩
      case measure => simp [intOf]; omega
  obtain rfl : k = len0 := by omega
  have hta : l.take k = l := List.take_of_length_le (by rw [HL.out]; exact Nat.le_refl _)
  have HSA : Hid (∀ x ∈ l, x.s.size ≤ 1024) := by have := HSZ.out; rw [hta] at this; exact this
  have HIb : Hid (Ints wr.heap.size .u8 wr a (itsL l)) := by
    obtain ⟨a', c', e, _, hI⟩ := Ints.of_owns HOB.out
    simp only [Value.slice.injEq] at e
    obtain ⟨rfl, _, rfl⟩ := e
    rw [hta] at hI
    exact hI
  have HBY : Hid (∀ c ∈ itsL l, isByte c) := itsL_byte l (fun x hx => (HOK.out x hx).1) HSA.out
  have HLE : Hid ((itsL l).length = endOf l k) := by show _ = _; rw [← endOf_all, HL.out]
  obtain ⟨E, hE⟩ : ∃ E, endOf l k = E := ⟨_, rfl⟩
  rw [hE] at hel hec HLE ⊢
  obtain ⟨q, hq⟩ : ∃ q, cut % (E + 1) = q := ⟨_, rfl⟩
  have hqi : (cut : Int) % ((E : Int) + 1) = (q : Int) := by rw [← hq, Int.natCast_emod, Int.natCast_add]; rfl
  have hqE : q ≤ E := by have := Nat.mod_lt cut (show 0 < E + 1 by omega); omega
  have hqc : q ≤ c := by omega
  obtain ⟨ea, ec, rfl⟩ := own_slice HEN.out
  have HEE := Lib.hid hE
  clear hE hq hta hlt
  go_wp2_with fail
  refine (new_any a q c ((itsL l).take q) (by rw [List.length_take, HLE.out]; omega) (by omega) (fun x hx => HBY.out x (List.mem_of_mem_take hx)) _ (Ints.take q HIb.out)).mono ?_
  rintro e Wn ⟨t, rfl, ht, hT, hN⟩
  have hown := own_below hN.b HEN.out
  have HEC : Hid (∀ i, i < k → ∃ g, ea = some ⟨g, 0, none⟩ ∧ g < t ∧ Wn.cell? ⟨g, i, none⟩ = some (.int .i64 ((endOf l (i + 1) : Nat) : Int))) := fun i hi => by
    obtain ⟨g, cap, e, _, _⟩ := own_pos hown (by omega)
    obtain ⟨g', cap', e', _, hg'⟩ := own_pos HEN.out (by omega)
    simp only [Value.slice.injEq] at e e'
    have hgg := e.1.symm.trans e'.1
    simp only [Option.some.injEq, Addr.mk.injEq, and_true] at hgg
    subst hgg
    obtain ⟨e1, _, e3⟩ := e
    subst e1
    subst e3
    refine ⟨g, rfl, by omega, ?_⟩
    rw [own_cell hown hi]
    simp [endsL, hi]
  have hbt := HB.out.size
  have HBN := Lib.hid (HB.out.trans (hN.b.mono HB.out.size))
  have HTN := Lib.hid hT
  have HRZ := Lib.hid (restL_zero l q)
  simp only [hqi]
  clear hN hT hown hqi
  go_wp2_with fail
  rw [← HRZ.out] at HTN
  go_loopw [10, 11] (fun tn i wr => ∃ (k' : Nat) (ps : List Int) (torn : Bool), k' ≤ k ∧ i = .int .i64 k' ∧ tn = .bool torn ∧ TapeAt wr t ps torn ∧ (torn = false → endOf l k' ≤ q ∧ ps = restL l q k') ∧ (torn = true → q < endOf l k') ∧ Up t Wn wr) (fun _ i _ => k - (intOf i).toNat)
  case atStart => exact ⟨0, _, false, Nat.zero_le _, rfl, rfl, HTN.out, fun _ => ⟨by simp [endOf, itsL], rfl⟩, (fun h => (by cases h)), Up.refl _ _⟩
  case round =>
  obtain ⟨k', ps, torn, hk', rfl, rfl, hT, hgo, hto, hup⟩ := hrel
  by_cases hlt : k' < k
  · have hkl : k' < l.length := by rw [HL.out]; exact hlt
    obtain ⟨ib, io, rfl, hib, hc0, hc1, hc2⟩ := items_at HI.out hkl
    obtain ⟨g, rfl, hgt, hge⟩ := HEC.out k' hlt
    have hBw : Below w.heap.size w wr := Up.below HBN.out hup HBN.out.size (by omega)
    have g0 := (hBw.cell (p := ⟨ib, io + k' * 3, none⟩) hib).trans hc0
    have g1 := (hBw.cell (p := ⟨ib, io + k' * 3 + 1, none⟩) hib).trans hc1
    have g2 := (hBw.cell (p := ⟨ib, io + k' * 3 + 2, none⟩) hib).trans hc2
    have g3 := hup.cell hge (Nat.ne_of_lt hgt)
    obtain ⟨hxo, _⟩ := HOK.out l[k'] (List.getElem_mem hkl)
    have hxs := HSA.out l[k'] (List.getElem_mem hkl)
    have HES := Lib.hid (endOf_succ l k' hkl)
    have HRC := Lib.hid (restL_cut l q k' hkl)
    have HRG := Lib.hid (restL_go l q k' hkl)
    obtain ⟨x, hx⟩ : ∃ x, l[k'] = x := ⟨_, rfl⟩
    rw [hx] at g0 g1 g2 hxo hxs HES HRC HRG
    have HXO := Lib.hid hxo
    have hn0 := hxo.1
    obtain ⟨E1, hE1⟩ : ∃ E1, endOf l (k' + 1) = E1 := ⟨_, rfl⟩
    rw [hE1] at g3 HES HRC HRG
    have HE1 := Lib.hid hE1
    have HUP := Lib.hid hup
    have HT := Lib.hid hT
    have hm63 : (x.s.size : Int) ≤ 9223372036854775807 := by omega
    clear hc0 hc1 hc2 hge hx hxo hBw hup hT hE1
    have hcase : torn = true ∨ (torn = false ∧ q < E1) ∨ (torn = false ∧ E1 ≤ q) := by
      cases torn
      · rcases Nat.lt_or_ge q E1 with h | h
        · exact .inr (.inl ⟨rfl, h⟩)
        · exact .inr (.inr ⟨rfl, h⟩)
      · exact .inl rfl
    rcases hcase with rfl | ⟨rfl, hqe⟩ | ⟨rfl, hqe⟩
    · have hqe := hto rfl
      have HQE : Hid (q < E1) := by show q < E1; have := HES.out; omega
      clear hgo hto hqe
      cases hxi : x.is
      · rw [hxi] at g0
        have HXI := Lib.hid hxi
        clear hxi
        have HC : Hid (Calls Try.prog 17 #[.pointer (some ⟨t, 0, none⟩)] wr (StepP (.int .u64 0) t ps true wr)) := tnumber_any t ps true wr HT.out
        go_wp2_with fail
        refine HC.out.mono ?_
        rintro e w5 ⟨rfl, hT5, hU5⟩
        have g0' := hU5.cell g0 (show ib ≠ t by omega)
        have HT5 := Lib.hid hT5
        have HU5 := Lib.hid (HUP.out.trans hU5)
        clear hT5 hU5
        go_wp2_with fail
        refine (torn_any t ps true _ HT5.out).mono ?_
        rintro e w6 ⟨rfl, rfl⟩
        go_wp2_with fail
        go_roundw
        case rel => exact ⟨k' + 1, ps, true, by omega, by go_num, rfl, HT5.out, (fun h => (by cases h)), fun _ => by rw [HE1.out]; exact HQE.out, HU5.out⟩
        case measure => simp [intOf]; omega
      · rw [hxi] at g0
        have HXI := Lib.hid hxi
        clear hxi
        have HC : Hid (Calls Try.prog 19 #[.pointer (some ⟨t, 0, none⟩), .int .i64 (x.s.size : Int)] wr (StepP (.string ⟨#[]⟩) t ps true wr)) := ttext_any t ps true x.s.size hm63 wr HT.out
        go_wp2_with fail
        refine HC.out.mono ?_
        rintro e w5 ⟨rfl, hT5, hU5⟩
        have g0' := hU5.cell g0 (show ib ≠ t by omega)
        have HT5 := Lib.hid hT5
        have HU5 := Lib.hid (HUP.out.trans hU5)
        clear hT5 hU5
        go_wp2_with fail
        refine (torn_any t ps true _ HT5.out).mono ?_
        rintro e w6 ⟨rfl, rfl⟩
        go_wp2_with fail
        go_roundw
        case rel => exact ⟨k' + 1, ps, true, by omega, by go_num, rfl, HT5.out, (fun h => (by cases h)), fun _ => by rw [HE1.out]; exact HQE.out, HU5.out⟩
        case measure => simp [intOf]; omega
    · obtain ⟨he, rfl⟩ := hgo rfl
      obtain ⟨hrc, hrl⟩ := HRC.out he hqe
      rw [hrc] at HT
      have HQE : Hid (q < E1) := hqe
      obtain ⟨j, hj⟩ : ∃ j, q - endOf l k' = j := ⟨_, rfl⟩
      rw [hj] at HT hrl
      have HJ := Lib.hid hrl
      clear hgo hto he hrc hj hrl
      cases hxi : x.is
      · rw [hxi] at g0
        have HC := Lib.hid (tnumber_any t _ false wr HT.out)
        rw [(cut_number x HXO.out hxi j HJ.out).1, (cut_number x HXO.out hxi j HJ.out).2] at HC
        have HXI := Lib.hid hxi
        clear hxi
        obtain ⟨ps, hps⟩ : ∃ ps, (itL x).take j = ps := ⟨_, rfl⟩
        rw [hps] at HC
        clear hps
        go_wp2_with fail
        refine HC.out.mono ?_
        rintro e w5 ⟨rfl, hT5, hU5⟩
        have g0' := hU5.cell g0 (show ib ≠ t by omega)
        have HT5 := Lib.hid hT5
        have HU5 := Lib.hid (HUP.out.trans hU5)
        clear hT5 hU5
        go_wp2_with fail
        refine (torn_any t ps true _ HT5.out).mono ?_
        rintro e w6 ⟨rfl, rfl⟩
        go_wp2_with fail
        go_roundw
        case rel => exact ⟨k' + 1, ps, true, by omega, by go_num, rfl, HT5.out, (fun h => (by cases h)), fun _ => by rw [HE1.out]; exact HQE.out, HU5.out⟩
        case measure => simp [intOf]; omega
      · rw [hxi] at g0
        have HC := Lib.hid (ttext_any t _ false x.s.size hm63 wr HT.out)
        rw [(cut_text x hxi hxs j HJ.out).1, (cut_text x hxi hxs j HJ.out).2, show ByteArray.empty = ⟨#[]⟩ from rfl] at HC
        have HXI := Lib.hid hxi
        clear hxi
        obtain ⟨ps, hps⟩ : ∃ ps, (itL x).take j = ps := ⟨_, rfl⟩
        rw [hps] at HC
        clear hps
        go_wp2_with fail
        refine HC.out.mono ?_
        rintro e w5 ⟨rfl, hT5, hU5⟩
        have g0' := hU5.cell g0 (show ib ≠ t by omega)
        have HT5 := Lib.hid hT5
        have HU5 := Lib.hid (HUP.out.trans hU5)
        clear hT5 hU5
        go_wp2_with fail
        refine (torn_any t ps true _ HT5.out).mono ?_
        rintro e w6 ⟨rfl, rfl⟩
        go_wp2_with fail
        go_roundw
        case rel => exact ⟨k' + 1, ps, true, by omega, by go_num, rfl, HT5.out, (fun h => (by cases h)), fun _ => by rw [HE1.out]; exact HQE.out, HU5.out⟩
        case measure => simp [intOf]; omega
    · obtain ⟨he, rfl⟩ := hgo rfl
      rw [HRG.out hqe] at HT
      have HQE : Hid (E1 ≤ q) := hqe
      clear hgo hto he
      cases hxi : x.is
      · rw [hxi] at g0
        have HC := Lib.hid (tnumber_any t _ false wr HT.out)
        rw [(it_number x HXO.out hxi _).1, (it_number x HXO.out hxi _).2] at HC
        have HXI := Lib.hid hxi
        clear hxi
        obtain ⟨ps, hps⟩ : ∃ ps, restL l q (k' + 1) = ps := ⟨_, rfl⟩
        rw [hps] at HC
        have HPS := Lib.hid hps
        clear hps
        go_wp2_with fail
        refine HC.out.mono ?_
        rintro e w5 ⟨rfl, hT5, hU5⟩
        have g0' := hU5.cell g0 (show ib ≠ t by omega)
        have HT5 := Lib.hid hT5
        have HU5 := Lib.hid (HUP.out.trans hU5)
        clear hT5 hU5
        go_wp2_with fail
        refine (torn_any t ps false _ HT5.out).mono ?_
        rintro e w6 ⟨rfl, rfl⟩
        go_wp2_with fail
        go_roundw
        case rel => exact ⟨k' + 1, ps, false, by omega, by go_num, rfl, HT5.out, fun _ => ⟨by rw [HE1.out]; exact HQE.out, HPS.out.symm⟩, (fun h => (by cases h)), HU5.out⟩
        case measure => simp [intOf]; omega
      · rw [hxi] at g0
        have HC := Lib.hid (ttext_any t _ false x.s.size hm63 wr HT.out)
        rw [(it_text x hxi hxs _).1, (it_text x hxi hxs _).2] at HC
        have HXI := Lib.hid hxi
        clear hxi
        obtain ⟨ps, hps⟩ : ∃ ps, restL l q (k' + 1) = ps := ⟨_, rfl⟩
        rw [hps] at HC
        have HPS := Lib.hid hps
        clear hps
        go_wp2_with fail
        refine HC.out.mono ?_
        rintro e w5 ⟨rfl, hT5, hU5⟩
        have g0' := hU5.cell g0 (show ib ≠ t by omega)
        have HT5 := Lib.hid hT5
        have HU5 := Lib.hid (HUP.out.trans hU5)
        clear hT5 hU5
        go_wp2_with fail
        refine (torn_any t ps false _ HT5.out).mono ?_
        rintro e w6 ⟨rfl, rfl⟩
        go_wp2_with fail
        go_roundw
        case rel => exact ⟨k' + 1, ps, false, by omega, by go_num, rfl, HT5.out, fun _ => ⟨by rw [HE1.out]; exact HQE.out, HPS.out.symm⟩, (fun h => (by cases h)), HU5.out⟩
        case measure => simp [intOf]; omega
  · obtain rfl : k' = k := by omega
    have HUP := Lib.hid hup
    have hBw := Lib.hid (Up.below HBN.out hup HBN.out.size (by omega))
    cases torn
    · obtain ⟨he, rfl⟩ := hgo rfl
      have hpz : restL l q k' = [] := by
        have : l.drop k' = [] := List.drop_of_length_le (by rw [HL.out]; exact Nat.le_refl _)
        unfold restL; rw [this]; simp [itsL]
      rw [hpz] at hT
      have HC1 := Lib.hid (end_any t [] false wr hT)
      have he1 : endB [] false = true := rfl
      rw [he1] at HC1
      clear hT hgo hto he hpz hup he1
      go_wp2_with fail
      refine HC1.out.mono ?_
      rintro e w1 ⟨rfl, rfl⟩
      go_wp2_with fail
      refine (works_any _).mono ?_
      rintro e w2 ⟨rfl, hN2⟩
      go_wp2_with fail
      go_ret
      exact ⟨rfl, hBw.out.trans (hN2.b.mono hBw.out.size)⟩
    · have HC1 := Lib.hid (end_any t ps true wr hT)
      have he1 : endB ps true = false := rfl
      rw [he1] at HC1
      have HC2 : Hid (Calls Try.prog 15 #[.pointer (some ⟨t, 0, none⟩)] wr (StepP (.int .u8 0) t ps true wr)) := tbyte_any t ps true wr hT
      clear hT hgo hto hup he1
      go_wp2_with fail
      refine HC1.out.mono ?_
      rintro e w1 ⟨rfl, rfl⟩
      go_wp2_with fail
      refine HC2.out.mono ?_
      rintro e w1 ⟨rfl, _, hU1⟩
      have HB2 := Lib.hid (Up.below hBw.out hU1 hBw.out.size (by omega))
      clear hU1
      go_wp2_with fail
      refine (works_any _).mono ?_
      rintro e w2 ⟨rfl, hN2⟩
      go_wp2_with fail
      go_ret
      exact ⟨rfl, HB2.out.trans (hN2.b.mono HB2.out.size)⟩

end Go.Proofs.Ytciagdechmkgjaa
