import Derived.Test.YtkopfnldgnkkoaaGreatRrD
import Derived.Test.YtkopfnldgnkkoaaGreatRsA
import Derived.Orders
import Derived.Test.YtkopfnldgnkkoaaGreatCmP

/-
  THE DOCUMENT's RUNS: Resume.
-/
namespace Go.Proofs.YtkopfnldgnkkoaaGreat
open Go.RowKit Go.Shelf
set_option linter.unusedVariables false

/-- A row of steps of its own, as a run's slice. -/
theorem own_qs {w : World} {base : Nat} {v : Value} {L : List St} (h : w.ownsRow base 115 4 v L.length (stR L)) :
    ∃ a c, v = .slice a L.length c ∧ L.length ≤ c ∧ Qs w 115 4 a c (stR L) ∧ ∀ p, a = some p → base ≤ p.block := by
  rcases h.2 with ⟨hv, h0⟩ | ⟨g, cap, cur, rfl, hg, hh, hn', hm, hcs, hcur⟩
  · have hL : L = [] := List.length_eq_zero_iff.1 h0
    subst hL
    exact ⟨none, 0, hv, Nat.le_refl _, Qs.nil _ _ _, fun p hp => by cases hp⟩
  · have hlen : (stR L).length = L.length * 4 := stR_len L
    refine ⟨some ⟨g, 0, none⟩, cap, rfl, hn', .inr ⟨g, 0, rfl, ⟨cur, hh⟩, by rw [hlen]; exact Nat.mul_le_mul_right _ hn', hm, fun j hj => ?_, fun j hj => ?_⟩, fun p hp => by cases hp; exact hg⟩
    · rw [cell_of_row w g (0 + j) _ _ _ hh]; simp [hcs, hj]
    · rw [cell_of_row w g (0 + j) _ _ _ hh, Nat.zero_add]
      have hj' : j < L.length * 4 := by omega
      have : cur.toList[j]? = (stR L)[j]? := by rw [← hcur, List.getElem?_take_of_lt hj']
      rw [List.getElem?_eq_getElem hj] at this
      simpa using this
/-- A run whose steps are others now: they lie in memory that is new since. -/
theorem RRunAt.turn {w w1 : World} {r d : Nat} {g : G} {k : Nat} {L M : List St} {a a' : Option Addr} {c' : Nat} (h : RRunAt w r d g k L a) (n : Nw w w1) (hc : M.length ≤ c') (hq : Qs w1 115 4 a' c' (stR M)) (hf : ∀ p, a' = some p → w.heap.size ≤ p.block) :
    RRunAt (w1.setCell ⟨r, 5, none⟩ (.slice a' M.length c')) r d g k M a' ∧ UpO (· = r) w (w1.setCell ⟨r, 5, none⟩ (.slice a' M.length c')) ∧ ∀ x, QB a' x → QB a x ∨ w.heap.size ≤ x := by
  obtain ⟨c, hk, _, _⟩ := h.k
  have hrl := hk.lt
  have hk1 := (hk.nw n).set 5 (.slice a' M.length c')
  refine ⟨⟨c', hk1, hc, hq.upo (O := fun x => x = r) (.of_up ((Up.refl r w1).set 5 _) rfl) (fun p hp e => by have := hf p hp; omega)⟩, UpO.pre n ((UpO.refl (· = r) w1).set (t := r) rfl 5 _), ?_⟩
  rintro x ⟨p, hp, rfl⟩
  exact .inr (hf p hp)
def RResR (w : World) (r d : Nat) (g : G) (k : Nat) (a : Option Addr) (ar : List Int) (e : Ending) (w' : World) : Prop :=
  e = .returned (.tuple #[.bool (hd ar != 0), .int .i64 0]) ∧ ∃ a', RRunAt w' r d g k (resumeL g (264 + 208 * (k : Int)) ar) a' ∧ UpO (· = r) w w' ∧ ∀ x, QB a' x → QB a x ∨ w.heap.size ≤ x
set_option maxHeartbeats 1000000 in
theorem rresume_busy (r d : Nat) (g : G) (k : Nat) (L : List St) (a : Option Addr) (h0 : 0 < L.length) (w : World) (h : RRunAt w r d g k L a) :
    Calls Tryz.prog 15 #[.pointer (some ⟨r, 0, none⟩)] w fun e w' => e = .returned (.tuple #[.bool false, .int .i64 3]) ∧ w = w' := by
  obtain ⟨c, hk, _⟩ := h.k
  have hc5 : w.cell? ⟨r, 5, none⟩ = some (.slice a L.length c) := hk.cell rfl
  have hi : (0 : Int) < (L.length : Int) := by omega
  clear h hk
  go_enter Tryz.func15, Tryz.ntmps15
  go_wp2_with fail
  go_ret2
  exact ⟨rfl, rfl⟩
theorem area_seen (f : Nat → Wd) (N k : Nat) (h : 264 + 208 * k + 208 ≤ N) : areaL (rowL (·.seen) f N) k = seenA f (264 + 208 * k) 208 := by
  refine List.ext_getElem? fun i => ?_
  unfold areaL seenA rowL
  by_cases hi : i < 208
  · rw [List.getElem?_take_of_lt hi, List.getElem?_drop, List.getElem?_map, List.getElem?_map, List.getElem?_range (by omega), List.getElem?_range hi]; rfl
  · rw [List.getElem?_eq_none (by simp; omega), List.getElem?_eq_none (by simp; omega)]
set_option maxRecDepth 100000 in
set_option maxHeartbeats 8000000 in
theorem rresume_any (r d b N k : Nat) (g : G) (a : Option Addr) (f : Nat → Wd) (ho : ovOk g N) (hk : (k : Int) < g.w) (hu : ∀ j, j < N → u64 (f j).seen) (w : World) (hD : RevAt w d b N f) (hR : RRunAt w r d g k [] a) :
    Calls Tryz.prog 15 #[.pointer (some ⟨r, 0, none⟩)] w (RResR w r d g k a (seenA f (264 + 208 * k) 208)) := by
  have hNl := hD.le
  obtain ⟨hq1, hq2⟩ := ov_words ho k hk
  have HM := Lib.hid ho.1
  have HOV := Lib.hid ho
  have HAS := Lib.hid (area_seen f N k hq1)
  have hk4 : (k : Int) ≤ 4 := by have := ho.1.2.1; omega
  obtain ⟨A, hA⟩ : ∃ A : Nat, A = 264 + 208 * k := ⟨_, rfl⟩
  have hAN : A + 208 ≤ N := by omega
  have hSl : (rowL (·.seen) f N).length = N := rowL_length _ _ _
  have hSu : ∀ x ∈ rowL (·.seen) f N, u64 x := fun x hx => by
    simp only [rowL, List.mem_map, List.mem_range] at hx
    obtain ⟨i, hi, rfl⟩ := hx
    exact hu i hi
  have hSA : (rowL (·.seen) f N)[A]?.getD 0 = hd (seenA f (264 + 208 * k) 208) := by
    unfold rowL hd seenA
    rw [List.getElem?_map, List.getElem?_range (by omega), hA]; rfl
  have HAR : Hid (∀ W, Calls Tryz.prog 52 #[.agg #[.int .i64 g.w, .int .i64 g.i, .int .i64 g.b], .int .i64 (k : Int)] W fun e w' => e = .returned (.int .i64 A) ∧ At W w') := fun W => by
    have := rarea_at g k (w0 := W) (w := W) At.refl
    rw [hq2, show (264 + 208 * (k : Int)) = (A : Int) by omega] at this
    exact this
  have HSE := Lib.hid (rseen_any d b N f w hD)
  obtain ⟨S, hS⟩ : ∃ S, rowL (·.seen) f N = S := ⟨_, rfl⟩
  rw [hS] at HSE HAS hSl hSu
  rw [hS] at hSA
  obtain ⟨c, hkb, _⟩ := hR.k
  have hc5 : w.cell? ⟨r, 5, none⟩ = some (.slice a 0 c) := hkb.cell rfl
  have hc0 : w.cell? ⟨r, 0, none⟩ = some (.pointer (some ⟨d, 0, none⟩)) := hkb.cell rfl
  have HK := Lib.hid hkb
  have HR := Lib.hid hR
  have HSU := Lib.hid hSu
  have HSL := Lib.hid hSl
  have HSAA := Lib.hid hSA
  have HRES := Lib.hid (show resumeL g (264 + 208 * (k : Int)) (seenA f (264 + 208 * k) 208) = if hd (seenA f (264 + 208 * k) 208) = 0 then [] else if comOk g (seenA f (264 + 208 * k) 208) = true then applyL (264 + 208 * (k : Int)) (comL g (seenA f (264 + 208 * k) 208)) else markL 6 (264 + 208 * (k : Int)) 0 from rfl)
  unfold RResR
  generalize seenA f (264 + 208 * k) 208 = ar at *
  clear hD hR hu hS hkb hSu hq1 hq2 hA ho
  go_enter Tryz.func15, Tryz.ntmps15
  go_wp2_with fail
  (with_reducible refine HSE.out.mono ?_)
  intro e w1 hou
  obtain ⟨sb, sc, rfl, hO, hn1, hsc, hsb⟩ := hou.out (by rw [HSL.out]; omega)
  rw [HSL.out] at hsc ⊢
  have HO1 := Lib.hid hO
  have HN1 := Lib.hid hn1
  have HK9 : Hid (∀ W, Nw w1 W → W.cell? ⟨r, 1, none⟩ = some (.int .i64 g.w) ∧ W.cell? ⟨r, 2, none⟩ = some (.int .i64 g.i) ∧ W.cell? ⟨r, 3, none⟩ = some (.int .i64 g.b) ∧ W.cell? ⟨r, 4, none⟩ = some (.int .i64 (k : Int)) ∧ W.cell? ⟨sb, A, none⟩ = some (.int .u64 (hd ar))) :=
    fun W q => ⟨((HK.out.nw HN1.out).nw q).cell rfl, ((HK.out.nw HN1.out).nw q).cell rfl, ((HK.out.nw HN1.out).nw q).cell rfl, ((HK.out.nw HN1.out).nw q).cell rfl, by
      have := (HO1.out.nw q).at_ A (by rw [HSL.out]; omega)
      rw [HSAA.out] at this
      exact this⟩
  obtain ⟨k1, k2, k3, k4, k5⟩ := HK9.out w1 Nw.refl
  have hAi : (A : Int) < (N : Int) := by omega
  have hA0 : (0 : Int) ≤ (A : Int) := by omega
  clear hou hO hn1 hsb hc5 hc0 hSA hSl
  go_wp2_with fail
  go_region_held3 (fun w' => w'.cell? ⟨r, 1, none⟩ = some (.int .i64 g.w) ∧ w'.cell? ⟨r, 2, none⟩ = some (.int .i64 g.i) ∧ w'.cell? ⟨r, 3, none⟩ = some (.int .i64 g.b) ∧ w'.cell? ⟨r, 4, none⟩ = some (.int .i64 (k : Int)) ∧ w'.cell? ⟨sb, A, none⟩ = some (.int .u64 (hd ar)))
    (first | (exact HK9.out _ Nw.refl.drew) | (exact HK9.out _ hk9))
    ((first
      | (go_at_call 52; (with_reducible refine (HAR.out _).mono ?_); rintro e w2 ⟨rfl, h2⟩; have hk9 := (Nw.refl (w := w1)).drew.trans h2.nw)))
  have HN2 := Lib.hid (HN1.out.trans hk9)
  have HO2 := Lib.hid (HO1.out.nw hk9)
  have HR2 := Lib.hid (HR.out.nw HN2.out)
  clear k1 k2 k3 k4 k5 HAR
  obtain ⟨k1, k2, k3, k4, -⟩ := HK9.out w2 hk9
  have HK2 : Hid (∀ W, Nw w2 W → W.cell? ⟨r, 1, none⟩ = some (.int .i64 g.w) ∧ W.cell? ⟨r, 2, none⟩ = some (.int .i64 g.i) ∧ W.cell? ⟨r, 3, none⟩ = some (.int .i64 g.b) ∧ W.cell? ⟨r, 4, none⟩ = some (.int .i64 (k : Int))) := fun W q => by
    obtain ⟨e1, e2, e3, e4, _⟩ := HK9.out W (hk9.trans q)
    exact ⟨e1, e2, e3, e4⟩
  clear hk9 h2 HK9
  by_cases h0 : hd ar = 0
  · have HB := Lib.hid (show (hd ar != 0) = false by rw [h0]; rfl)
    have HE := Lib.hid (show resumeL g (264 + 208 * (k : Int)) ar = [] by rw [HRES.out, if_pos h0])
    have hz : (hd ar == 0) = true := by rw [h0]; rfl
    clear h0
    go_wp2_with fail
    go_ret2
    exact ⟨by rw [HB.out]; rfl, a, by rw [HE.out]; exact HR2.out, .of_nw HN2.out, fun x hx => .inl hx⟩
  have HB := Lib.hid (show (hd ar != 0) = true by rw [bne_iff_ne]; exact h0)
  have hz : (hd ar == 0) = false := by rw [beq_eq_false_iff_ne]; exact h0
  have HCM : Hid (∀ W, Nw w2 W → Calls Tryz.prog 67 #[.agg #[.int .i64 g.w, .int .i64 g.i, .int .i64 g.b], .int .i64 (k : Int), .slice (some ⟨sb, 0, none⟩) N sc] W (RComR g ar W)) := fun W q => by
    have := rcommitted_any g k sb 0 N sc W.heap.size S HSL.out hsc (by omega) HSU.out HOV.out hk W (Nat.le_refl _) (HO2.out.nw q).ints
    rw [HAS.out] at this
    exact this
  have HLE := Lib.hid (comL_le g ar)
  have HIN := Lib.hid (fun x (hx : x ∈ comL g ar) => (comL_in hx : 0 ≤ x.1 ∧ x.1 < wordsV g))
  have HH0 := Lib.hid h0
  clear h0
  go_wp2_with fail
  go_region_held3 (fun w' => w'.cell? ⟨r, 1, none⟩ = some (.int .i64 g.w) ∧ w'.cell? ⟨r, 2, none⟩ = some (.int .i64 g.i) ∧ w'.cell? ⟨r, 3, none⟩ = some (.int .i64 g.b) ∧ w'.cell? ⟨r, 4, none⟩ = some (.int .i64 (k : Int)))
    (first | (exact HK2.out _ Nw.refl.drew) | (exact HK2.out _ hk9))
    ((first
      | (go_at_call 67; (with_reducible refine (HCM.out _ Nw.refl.drew).mono ?_); rintro e w3 ⟨la, n, lc, rfl, hnc, hP, hn3, hf3⟩; have hk9 := (Nw.refl (w := w2)).drew.trans hn3)))
  have HN3 := Lib.hid (HN2.out.trans hk9)
  have HR3 := Lib.hid (HR.out.nw HN3.out)
  have HP3 := Lib.hid hP
  have hf5 : ∀ (W : World), Nw w W → W.frozen? ⟨r, 5, none⟩ = false := fun W q => (HK.out.nw q).frozen 5
  have HF5 := Lib.hid hf5
  clear k1 k2 k3 k4 hP hn3 hf3 hk9 HCM HK2 hf5
  have hc5 : ∀ (W : World), Nw w W → W.cell? ⟨r, 5, none⟩ = some (.slice a 0 c) := fun W q => (HK.out.nw q).cell rfl
  have HC5 := Lib.hid hc5
  clear hc5
  cases hok : comOk g ar
  · have HE := Lib.hid (show resumeL g (264 + 208 * (k : Int)) ar = markL 6 (264 + 208 * (k : Int)) 0 by rw [HRES.out, if_neg HH0.out, if_neg (by rw [hok]; simp)])
    have HCL := Lib.hid (clears_any r d g k [] a HM.out hk w3 HR3.out)
    clear hok
    go_wp2_with fail
    (with_reducible refine HCL.out.mono ?_)
    rintro e w4 ⟨v4, rfl, ho4, hn4⟩
    obtain ⟨qa, qc, rfl, hql, hqq, hqf⟩ := own_qs ho4
    have HN4 := Lib.hid (HN3.out.trans hn4)
    have HT := Lib.hid (HR.out.turn HN4.out hql hqq (fun p hp => Nat.le_trans HN3.out.b.size (hqf p hp)))
    have hc5 := HC5.out w4 HN4.out
    have hf5 := HF5.out w4 HN4.out
    rw [← HE.out] at HT hql ⊢
    obtain ⟨M, hM⟩ : ∃ M, resumeL g (264 + 208 * (k : Int)) ar = M := ⟨_, rfl⟩
    rw [hM] at HT hql ⊢
    have HM9 := Lib.hid hM
    clear hM HE HRES
    generalize M.length = mm at *
    clear ho4 hn4 hqq hqf
    go_wp2_with fail
    go_ret2
    exact ⟨by rw [HB.out]; rfl, qa, by rw [HM9.out]; exact HT.out.1, HT.out.2.1, HT.out.2.2⟩
  · obtain ⟨hnl, hPl⟩ := HP3.out hok
    have HE := Lib.hid (show resumeL g (264 + 208 * (k : Int)) ar = applyL (264 + 208 * (k : Int)) (comL g ar) by rw [HRES.out, if_neg HH0.out, if_pos hok])
    have HFR := Lib.hid (from_any r d g k [] a HM.out hk la n lc w3.heap.size (comL g ar) hnl.symm (by have := HLE.out; omega) (fun x hx => by have h1 := HIN.out x hx; have h2 := HOV.out.2; omega) w3 (Nat.le_refl _) hPl HR3.out)
    clear hok hnl hPl
    go_wp2_with fail
    (with_reducible refine HFR.out.mono ?_)
    rintro e w4 ⟨v4, rfl, ho4, hn4⟩
    obtain ⟨qa, qc, rfl, hql, hqq, hqf⟩ := own_qs ho4
    have HN4 := Lib.hid (HN3.out.trans hn4)
    have HT := Lib.hid (HR.out.turn HN4.out hql hqq (fun p hp => Nat.le_trans HN3.out.b.size (hqf p hp)))
    have hc5 := HC5.out w4 HN4.out
    have hf5 := HF5.out w4 HN4.out
    rw [← HE.out] at HT hql ⊢
    obtain ⟨M, hM⟩ : ∃ M, resumeL g (264 + 208 * (k : Int)) ar = M := ⟨_, rfl⟩
    rw [hM] at HT hql ⊢
    have HM9 := Lib.hid hM
    clear hM HE HRES
    generalize M.length = mm at *
    clear ho4 hn4 hqq hqf
    go_wp2_with fail
    go_ret2
    exact ⟨by rw [HB.out]; rfl, qa, by rw [HM9.out]; exact HT.out.1, HT.out.2.1, HT.out.2.2⟩
end Go.Proofs.YtkopfnldgnkkoaaGreat

/-
  AN APPEND TO A SLICE OF ITS OWN, of many things; one operation alone.
-/
namespace Go.Proofs.YtkopfnldgnkkoaaGreat
open Go.RowKit Go.Shelf
set_option linter.unusedVariables false

theorem wp_of_list {P : Program} {o : Oper} {a : Act} {w : World} {K : Act → World → Prop} {Q : Exit → Act → World → Prop} (hg : o.guard = none) (h : wpList P #[] (fun e a' w' => e = .normal ∧ K a' w') [o] a w) : o.wp P a w K Q := by
  simp only [wpList, Region.wanted, hg, if_true] at h
  rcases h with h | ⟨_, a', w', h, _⟩
  · unfold Oper.wp at h ⊢
    generalize (execOp a.eval o).run P w = r at *
    cases r with
    | ok n w' =>
      cases n <;> simp only [Oper.upon] at h ⊢ <;>
        first
          | exact h.2
          | exact Rows.mono h (fun _ _ he => he.2)
          | exact Calls.mono h (fun e w'' he => by
              cases e
              · exact he.2
              · exact absurd he.1 (by simp)
              · obtain ⟨_, _, h1, _⟩ := he
                exact absurd h1 (by simp))
    | halt x w' => cases x <;> simp only [Oper.upon] at h ⊢ <;> first | exact h.elim | exact absurd h.1 (by simp)
  · exact absurd h (by simp)

/-- m more things behind a slice of its own. -/
theorem wpList_append_qsm {P : Program} (w : World) {ops : Array Oper} {rest : List Oper} {o : Oper} {a : Act} {Q : Exit → Act → World → Prop}
    (hg : o.guard = none) (s x : Operand) (t : TypeId) (hop : o.op = .call { callee := .builtin .append, args := #[s, x], argTypes := #[t, t] })
    (e : TypeId) (i : TypeInfo) (z : Value) (sz bytes : Nat) (h1 : P.underlying t = some (.slice e)) (h2 : P.info? e = some i) (h3 : i.zero = some z) (h4 : i.size = sz) (h5 : i.bytes = bytes) (hzs : z.cells.size = sz) (hsz : 0 < sz)
    (a0 : Option Addr) (n c0 : Nat) (xs : List Value) (hs : a.eval s = .slice a0 n c0) (hn : xs.length = n * sz) (hq : Qs w e sz a0 c0 xs) (m : Nat) (hm0 : 0 < m) (h63 : n + m ≤ maxLen) (hby : (n + m) * bytes ≤ 140737488355328)
    (ad : Addr) (c : Nat) (ys : List Value) (hx : a.eval x = .slice (some ad) m c) (hl : ys.length = m * sz) (hc : ∀ j u, ys[j]? = some u → w.cell? (ad.add j) = some u) (hone : ∀ u ∈ ys, u.oneCell' = true)
    (hK : ∀ a1 c1 w', Qs w' e sz a1 c1 (xs ++ ys) → UpO (QB a0) w w' → (∀ p, a1 = some p → QB a0 p.block ∨ w.heap.size ≤ p.block) → wpList P ops Q rest (a.put o.dst (.slice a1 (n + m) c1)) w') :
    wpList P ops Q (o :: rest) a w := by
  have grown : ∀ v' w', w'.ownsRow w.heap.size e sz v' (n + m) (xs ++ ys) → w.grownBy w' none → wpList P ops Q rest (a.put o.dst v') w' := by
    intro v' w' ho hgr
    have hN : Nw w w' := ⟨Below.of_grown hgr⟩
    rcases ho.2 with ⟨_, h0⟩ | ⟨g, cap, cur, rfl, hg, hh, hn', hmx, hcs, hcur⟩
    · omega
    · have hlen : (xs ++ ys).length = (n + m) * sz := ho.1
      refine hK (some ⟨g, 0, none⟩) cap w' (.inr ⟨g, 0, rfl, ⟨cur, hh⟩, by rw [hlen]; exact Nat.mul_le_mul_right _ hn', hmx, fun j hj => ?_, fun j hj => ?_⟩) (.of_nw hN) (fun p hp => by cases hp; exact .inr hg)
      · rw [cell_of_row w' g (0 + j) _ _ _ hh]; simp [hcs, hj]
      · rw [cell_of_row w' g (0 + j) _ _ _ hh, Nat.zero_add]
        have hj' : j < (n + m) * sz := by omega
        have : cur.toList[j]? = (xs ++ ys)[j]? := by rw [← hcur, List.getElem?_take_of_lt hj']
        rw [List.getElem?_eq_getElem hj] at this
        simpa using this
  rcases hq with ⟨rfl, rfl, rfl⟩ | ⟨b, off, rfl, hb, hle, hmx, hsome, hcell⟩
  · have hn0 : n = 0 := by
      rcases Nat.eq_zero_or_pos n with h | h
      · exact h
      · have := Nat.mul_pos h hsz
        rw [← hn] at this; simp at this
    subst hn0
    refine wpList_append_grows w hg s x t hop e i z sz bytes h1 h2 h3 h4 h5 hzs hsz none 0 0 [] hs (fun _ => ⟨rfl, rfl⟩) (by simp) (fun b hb => by cases hb) ad m c ys hx hl hc hone (by omega) h63 hby (fun v' w' ho hgr => grown v' w' ?_ hgr)
    simpa using ho
  · have hnc : n ≤ c0 := by rw [hn] at hle; exact Nat.le_of_mul_le_mul_right hle hsz
    refine wpList_append_arg w hg s x t hop e i z sz bytes h1 h2 h3 h4 h5 hzs hsz b off n c0 xs hs hn ?_ ad m c ys hx hl hc hone ?_ h63 hby ?_ (fun hlt v' w' ho hgr => grown v' w' ho hgr)
    · intro j u hj
      obtain ⟨hj', rfl⟩ := List.getElem?_eq_some_iff.1 hj
      exact hcell j hj'
    · intro hr j hj
      have : (n + m) * sz ≤ c0 * sz := Nat.mul_le_mul_right _ hr
      rw [Nat.add_mul] at this
      exact ⟨by rw [Nat.add_assoc]; exact hsome _ (by omega), hb.frozen _⟩
    · intro hr
      have hcs : (n + m) * sz ≤ c0 * sz := Nat.mul_le_mul_right _ hr
      rw [Nat.add_mul] at hcs
      have hy : ys.length = m * sz := by omega
      have hu : ∀ (vs : List Value) (o : Nat) (v : World), Up b v (v.setCells b o vs) ∧ ((∃ cs, Blk v b cs e) → ∃ cs, Blk (v.setCells b o vs) b cs e) := by
        intro vs
        induction vs with
        | nil => intro o v; exact ⟨Up.refl _ _, id⟩
        | cons x r ih =>
          intro o v
          obtain ⟨i1, i2⟩ := ih (o + 1) (v.setCell ⟨b, o, none⟩ x)
          exact ⟨((Up.refl b v).set o x).trans i1, fun h => i2 (Tag.set h b o x)⟩
      have hsomes : ∀ j, j < ys.length → (w.cell? ⟨b, off + n * sz + j, none⟩).isSome = true := fun j hj => by rw [Nat.add_assoc]; exact hsome _ (by omega)
      refine hK (some ⟨b, off, none⟩) c0 _ (.inr ⟨b, off, rfl, (hu ys _ w).2 hb, by rw [List.length_append]; omega, hmx, fun j hj => ?_, fun j hj => ?_⟩) (.of_up (hu ys _ w).1 ⟨_, rfl, rfl⟩) (fun p hp => by cases hp; exact .inl ⟨_, rfl, rfl⟩)
      · by_cases hin : n * sz ≤ j ∧ j < n * sz + m * sz
        · have := World.cell?_setCells_in b ys (off + n * sz) w hsomes (j - n * sz) (by omega)
          rw [show off + n * sz + (j - n * sz) = off + j by omega] at this
          rw [this]; rfl
        · rw [World.cell?_setCells_out b ys (off + n * sz) w ⟨b, off + j, none⟩ (fun _ _ => by dsimp only; omega)]
          exact hsome j hj
      · by_cases hin : j < xs.length
        · rw [World.cell?_setCells_out b ys (off + n * sz) w ⟨b, off + j, none⟩ (fun _ _ => by dsimp only; omega), hcell j hin, List.getElem_append_left hin]
        · rw [List.length_append] at hj
          have := World.cell?_setCells_in b ys (off + n * sz) w hsomes (j - n * sz) (by omega)
          rw [show off + n * sz + (j - n * sz) = off + j by omega] at this
          rw [this, List.getElem_append_right (by omega)]
          congr 2
          omega


/-- The same, the operation alone. -/
theorem wp_append_qsm {P : Program} (w : World) {o : Oper} {a : Act} {K : Act → World → Prop} {Q : Exit → Act → World → Prop}
    (hg : o.guard = none) (s x : Operand) (t : TypeId) (hop : o.op = .call { callee := .builtin .append, args := #[s, x], argTypes := #[t, t] })
    (e : TypeId) (i : TypeInfo) (z : Value) (sz bytes : Nat) (h1 : P.underlying t = some (.slice e)) (h2 : P.info? e = some i) (h3 : i.zero = some z) (h4 : i.size = sz) (h5 : i.bytes = bytes) (hzs : z.cells.size = sz) (hsz : 0 < sz)
    (a0 : Option Addr) (n c0 : Nat) (xs : List Value) (hs : a.eval s = .slice a0 n c0) (hn : xs.length = n * sz) (hq : Qs w e sz a0 c0 xs) (m : Nat) (hm0 : 0 < m) (h63 : n + m ≤ maxLen) (hby : (n + m) * bytes ≤ 140737488355328)
    (ad : Addr) (c : Nat) (ys : List Value) (hx : a.eval x = .slice (some ad) m c) (hl : ys.length = m * sz) (hc : ∀ j u, ys[j]? = some u → w.cell? (ad.add j) = some u) (hone : ∀ u ∈ ys, u.oneCell' = true)
    (hK : ∀ a1 c1 w', Qs w' e sz a1 c1 (xs ++ ys) → UpO (QB a0) w w' → (∀ p, a1 = some p → QB a0 p.block ∨ w.heap.size ≤ p.block) → K (a.put o.dst (.slice a1 (n + m) c1)) w') :
    o.wp P a w K Q :=
  wp_of_list hg (wpList_append_qsm w hg s x t hop e i z sz bytes h1 h2 h3 h4 h5 hzs hsz a0 n c0 xs hs hn hq m hm0 h63 hby ad c ys hx hl hc hone (fun a1 c1 w' k1 k2 k3 => ⟨rfl, hK a1 c1 w' k1 k2 k3⟩))
end Go.Proofs.YtkopfnldgnkkoaaGreat

/-
  THE DOCUMENT's RUNS: from one moment to the next.
-/
namespace Go.Proofs.YtkopfnldgnkkoaaGreat
open Go.RowKit Go.Shelf
set_option linter.unusedVariables false

/-- A run from one moment to the next. -/
structure RRunM (w : World) (r d : Nat) (g : G) (k : Nat) (a : Option Addr) (L : List St) (a' : Option Addr) (w' : World) : Prop where
  rr : RRunAt w' r d g k L a'
  u : UpO (OwnR9 r a) w w'
  o : ∀ x, OwnR9 r a' x → OwnR9 r a x ∨ w.heap.size ≤ x
theorem RRunM.refl {w : World} {r d : Nat} {g : G} {k : Nat} {a : Option Addr} {L : List St} (h : RRunAt w r d g k L a) : RRunM w r d g k a L a w := ⟨h, .refl _ _, fun _ hk => .inl hk⟩
theorem RRunM.nw {w w1 w2 : World} {r d : Nat} {g : G} {k : Nat} {a a1 : Option Addr} {L : List St} (h : RRunM w r d g k a L a1 w1) (n : Nw w1 w2) : RRunM w r d g k a L a1 w2 := ⟨h.rr.nw n, h.u.nw n, h.o⟩
/-- More steps behind the others. -/
theorem RRunM.push {w w1 w3 : World} {r d : Nat} {g : G} {k : Nat} {a a1 a3 : Option Addr} {L M : List St} {c3 : Nat} (h : RRunM w r d g k a L a1 w1) (hc : L.length + M.length ≤ c3)
    (hq : Qs w3 115 4 a3 c3 (stR L ++ stR M)) (u : UpO (QB a1) w1 w3) (hn : ∀ p, a3 = some p → QB a1 p.block ∨ w1.heap.size ≤ p.block) :
    RRunM w r d g k a (L ++ M) a3 (w3.setCell ⟨r, 5, none⟩ (.slice a3 (L.length + M.length) c3)) := by
  obtain ⟨c, hk, _, _⟩ := h.rr.k
  have hnr : ¬ QB a1 r := fun hx => (h.rr.qtag hx).ne h.rr.tag (by decide) rfl
  have hk3 := (u.blk hk hnr).set 5 (.slice a3 (L.length + M.length) c3)
  have hrl := hk.lt
  have hne : ∀ p, a3 = some p → p.block ≠ r := fun p hp e => by
    rcases hn p hp with h1 | h1
    · exact hnr (e ▸ h1)
    · omega
  refine ⟨⟨c3, by rw [List.length_append]; exact hk3, by rw [List.length_append]; exact hc, by
      rw [stR_append]; exact hq.upo (O := fun x => x = r) (.of_up ((Up.refl r w3).set 5 _) rfl) (fun p hp e => hne p hp e)⟩, ?_, ?_⟩
  · refine (h.u.trans (O' := OwnR9 r a1) (u.mono (fun x hx => .inr hx)) h.o).trans (O' := fun x => x = r) (.of_up ((Up.refl r w3).set 5 _) rfl) (fun x hx => .inl (.inl hx))
  · rintro x (rfl | ⟨p, hp, rfl⟩)
    · exact .inl (.inl rfl)
    · rcases hn p hp with h1 | h1
      · exact h.o _ (.inr h1)
      · exact .inr (Nat.le_trans h.u.size h1)

/-- A row of ints of its own grows: the run stays. -/
theorem RRunM.row {w w1 w2 : World} {r d : Nat} {g : G} {k : Nat} {a a1 : Option Addr} {L : List St} {n : Nat} {v : Value} {xs : List Value} (h : RRunM w r d g k a L a1 w1) (hg : w1.grownBy w2 v.ownBlock) (ho : w1.ownsRow w.heap.size 3 1 v n xs) : RRunM w r d g k a L a1 w2 := by
  have hup := up_of_grown hg
  have hs := h.u.size
  obtain ⟨t, ht⟩ : ∃ t, v.ownBlock.getD w1.heap.size = t := ⟨_, rfl⟩
  rw [ht] at hup
  have hkey : w.heap.size ≤ t ∧ ∀ x, OwnR9 r a1 x → x ≠ t := by
    rcases ho.2 with ⟨rfl, _⟩ | ⟨gb, cap, cur, rfl, hgb, hh, _⟩
    · have e : t = w1.heap.size := by rw [← ht]; rfl
      subst e
      exact ⟨hs, fun x hx => Nat.ne_of_lt (h.rr.own_lt hx)⟩
    · have e : t = gb := by rw [← ht]; rfl
      subst e
      exact ⟨hgb, fun x hx e => h.rr.not_own (x := x) (t := 3) (e ▸ ⟨cur, hh⟩) (by decide) (by decide) hx⟩
  obtain ⟨k1, k2⟩ := hkey
  refine ⟨h.rr.upo (O := fun x => x = t) (.of_up hup rfl) (fun e => k2 r (.inl rfl) e) (fun x hx e => k2 x (.inr hx) e), ?_, h.o⟩
  exact h.u.trans (O' := fun x => x = t) (.of_up hup rfl) (fun x hx => .inr (by rw [hx]; exact k1))
end Go.Proofs.YtkopfnldgnkkoaaGreat
