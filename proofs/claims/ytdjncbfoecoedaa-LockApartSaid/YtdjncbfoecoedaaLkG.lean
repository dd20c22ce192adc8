/-
  LOCKS: DeleteFunc.
-/
import Derived.Test.YtdjncbfoecoedaaLkF
namespace Go.Proofs.Ytdjncbfoecoedaa
open Go.RowKit Go.Shelf
set_option linter.unusedVariables false

/-- A row that is being thinned: ys in front, from j on as it was. -/
structure DelI (W : World) (b off c : Nat) (xs ys : List Int) (j : Nat) : Prop where
  lo : ∀ m (h : m < ys.length), W.cell? ⟨b, off + m, none⟩ = some (.int .i64 ys[m])
  hi : ∀ m (h : m < xs.length), j ≤ m → W.cell? ⟨b, off + m, none⟩ = some (.int .i64 xs[m])
  so : ∀ m, m < c → (W.cell? ⟨b, off + m, none⟩).isSome = true
  fr : ∀ m, W.frozen? ⟨b, m, none⟩ = false
theorem DelI.skip {W : World} {b off c : Nat} {xs ys : List Int} {j : Nat} (h : DelI W b off c xs ys j) : DelI W b off c xs ys (j + 1) := ⟨h.lo, fun m hm hj => h.hi m hm (by omega), h.so, h.fr⟩
theorem DelI.put {W : World} {b off c : Nat} {xs ys : List Int} {j : Nat} (h : DelI W b off c xs ys j) (hj : ys.length < j) (hc : ys.length < c) (y : Int) : DelI (W.setCell ⟨b, off + ys.length, none⟩ (.int .i64 y)) b off c xs (ys ++ [y]) (j + 1) := by
  have hs : ∀ m, m ≠ ys.length → (W.setCell ⟨b, off + ys.length, none⟩ (.int .i64 y)).cell? ⟨b, off + m, none⟩ = W.cell? ⟨b, off + m, none⟩ := fun m hm => World.cell?_setCell_other W ⟨b, off + ys.length, none⟩ ⟨b, off + m, none⟩ _ (fun h => hm (by simpa using h.symm))
  have hsame : (W.setCell ⟨b, off + ys.length, none⟩ (.int .i64 y)).cell? ⟨b, off + ys.length, none⟩ = some (.int .i64 y) := World.cell?_setCell_same' _ _ _ (h.so _ hc)
  refine ⟨fun m hm => ?_, fun m hm hjm => ?_, fun m hm => ?_, fun m => by rw [World.frozen?_setCell]; exact h.fr m⟩
  · by_cases e : m = ys.length
    · subst e; rw [hsame]; simp
    · have hm' : m < ys.length := by simp at hm; omega
      rw [hs m e, h.lo m hm', List.getElem_append_left hm']
  · rw [hs m (by omega)]; exact h.hi m hm (by omega)
  · by_cases e : m = ys.length
    · subst e; rw [hsame]; rfl
    · rw [hs m e]; exact h.so m hm
/-- 'clear' of a row of numbers. -/
theorem wpList_clear_ints {P : Program} {ops : Array Oper} {rest : List Oper} {o : Oper} {a : Act} {w : World} {Q : Exit → Act → World → Prop} (hgd : o.guard = none) (s : Operand) (t e : TypeId)
    (ho : o.op = .call { callee := .builtin .clear, args := #[s], argTypes := #[t] }) (ht : P.underlying t = some (.slice e)) (hv : ∀ w, (zeroValue e).run P w = .ok (.int .i64 0) w)
    (b off n c : Nat) (hs : a.eval s = .slice (some ⟨b, off, none⟩) n c) (hn : 0 < n) (hc : ∀ j, j < n → (w.cell? ⟨b, off + j, none⟩).isSome = true) (hf : ∀ j, w.frozen? ⟨b, j, none⟩ = false)
    (h : ∀ w', w' = w.setCells b off (List.replicate n (.int .i64 0)) → wpList P ops Q rest (a.put o.dst (.tuple #[])) w') : wpList P ops Q (o :: rest) a w := by
  refine wpList_plain hgd fun K hK => ?_
  have hr := Lib.run_clear_slice (P := P) w t e o.type (.int .i64 0) ht hv rfl rfl b off n c hn hc (fun j _ => hf _)
  unfold Oper.wp execOp
  simp only [ho, resolve, invoke, builtin, Sem.run_bind, Sem.run_pure, Result.andThen_ok, List.map_toArray, List.map_cons, List.map_nil, hs, hr]
  exact hK _ _ (h _ rfl)
theorem setCells_cell : ∀ (vs : List Value) (W : World) (b off m : Nat), (∀ j, j < vs.length → (W.cell? ⟨b, off + j, none⟩).isSome = true) → m < off ∨ off + vs.length ≤ m → (W.setCells b off vs).cell? ⟨b, m, none⟩ = W.cell? ⟨b, m, none⟩
  | [], W, b, off, m, _, _ => rfl
  | v :: vs, W, b, off, m, hs, hm => by
    simp only [World.setCells]
    simp only [List.length_cons] at hm hs
    have hne : m ≠ off := by omega
    have hstep : ∀ j, j ≠ off → (W.setCell ⟨b, off, none⟩ v).cell? ⟨b, j, none⟩ = W.cell? ⟨b, j, none⟩ := fun j hj => World.cell?_setCell_other W ⟨b, off, none⟩ ⟨b, j, none⟩ _ (fun h => hj (by simpa using h.symm))
    rw [setCells_cell vs _ b (off + 1) m (fun j hj => by rw [hstep _ (by omega)]; have := hs (j + 1) (by omega); rwa [show off + 1 + j = off + (j + 1) by omega]) (by omega), hstep m hne]
theorem setCells_some : ∀ (vs : List Value) (W : World) (b off m : Nat), (W.cell? ⟨b, m, none⟩).isSome = true → ((W.setCells b off vs).cell? ⟨b, m, none⟩).isSome = true
  | [], W, b, off, m, h => h
  | v :: vs, W, b, off, m, h => by
    simp only [World.setCells]
    refine setCells_some vs _ b (off + 1) m ?_
    by_cases e : m = off
    · subst e; rw [World.cell?_setCell_same' _ _ _ h]; rfl
    · rw [World.cell?_setCell_other W ⟨b, off, none⟩ ⟨b, m, none⟩ _ (fun h => e (by simpa using h.symm))]; exact h
theorem setCells_up : ∀ (vs : List Value) (W W0 : World) (b off : Nat), Up b W0 W → Up b W0 (W.setCells b off vs)
  | [], W, W0, b, off, h => h
  | v :: vs, W, W0, b, off, h => by
    simp only [World.setCells]
    exact setCells_up vs _ W0 b (off + 1) (h.set off v)
theorem setCells_frozen : ∀ (vs : List Value) (W : World) (b off m : Nat), (W.setCells b off vs).frozen? ⟨b, m, none⟩ = W.frozen? ⟨b, m, none⟩
  | [], W, b, off, m => rfl
  | v :: vs, W, b, off, m => by
    simp only [World.setCells]
    rw [setCells_frozen vs _ b (off + 1) m, World.frozen?_setCell]
theorem DelI.clear {W : World} {b off c : Nat} {xs ys : List Int} {j : Nat} (h : DelI W b off c xs ys j) (n : Nat) (hn : ys.length + n ≤ c) (hb : b < W.heap.size) (hm : c ≤ maxLen) : Qu (W.setCells b (off + ys.length) (List.replicate n (.int .i64 0))) (some ⟨b, off, none⟩) c ys := by
  refine .inr ⟨b, off, rfl, Nat.lt_of_lt_of_le hb (setCells_up _ W W b _ (Up.refl _ _)).size, by omega, hm, fun m hm => setCells_some _ _ _ _ _ (h.so m hm), fun m => by rw [setCells_frozen]; exact h.fr m, fun m hm => ?_⟩
  rw [setCells_cell _ _ _ _ _ (fun i hi => by simp at hi; rw [Nat.add_assoc]; exact h.so _ (by omega)) (.inl (by omega))]
  exact h.lo m hm
/-- What is left of a row without v. -/
def lessL (v : Int) (xs : List Int) : List Int := xs.filter fun y => !eqB v y
theorem lessL_succ (v : Int) {xs : List Int} {j : Nat} (h : j < xs.length) : lessL v (xs.take (j + 1)) = if eqB v xs[j] = true then lessL v (xs.take j) else lessL v (xs.take j) ++ [xs[j]] := by
  unfold lessL
  rw [List.take_succ_eq_append_getElem h, List.filter_append]
  by_cases e : eqB v xs[j] = true
  · rw [if_pos e]; simp [e]
  · rw [if_neg e]; simp [e]
theorem lessL_all {v : Int} {xs : List Int} (h : ∀ y ∈ xs, eqB v y = false) : lessL v xs = xs := by
  unfold lessL
  exact List.filter_eq_self.2 fun y hy => by rw [h y hy]; rfl
theorem lessL_at {v : Int} {xs : List Int} {k : Nat} (hk : k < xs.length) (hp : eqB v xs[k] = true) (hn : ∀ y ∈ xs.take k, eqB v y = false) : lessL v (xs.take (k + 1)) = xs.take k := by
  rw [lessL_succ v hk, if_pos hp, lessL_all hn]
/-- What DeleteFunc tells. -/
def DelP (w : World) (a : Option Addr) (c : Nat) (ys : List Int) (e : Ending) (w' : World) : Prop := e = .returned (.slice a ys.length c) ∧ Qu w' a c ys ∧ UpO (QB a) w w'
theorem zero_int (w : World) : (zeroValue 3).run Try.prog w = .ok (.int .i64 0) w := by kernel_rfl
set_option maxRecDepth 100000 in
set_option maxHeartbeats 4000000 in
theorem delete_any (B : Nat) (v : Int) (a : Option Addr) (c : Nat) (xs : List Int) (hn : xs.length ≤ 1000000) (w : World) (hb : w.cell? ⟨B, 0, none⟩ = some (.int .i64 v)) (hB : ¬ QB a B) (hq : Qu w a c xs) :
    Calls Try.prog 18 #[.slice a xs.length c, .func (.func 19) #[] #[.pointer (some ⟨B, 0, none⟩)]] w (DelP w a c (lessL v xs)) := by
  have HC := Lib.hid (give_index B v a xs.length c xs rfl hn _ w hb hq.ints)
  have HQ := Lib.hid hq
  have HB := Lib.hid hb
  have HNB := Lib.hid hB
  obtain ⟨n, hxn⟩ : ∃ n, xs.length = n := ⟨_, rfl⟩
  have HX := Lib.hid hxn
  rw [hxn] at HC hn ⊢
  clear hq hb hB hxn
  go_enter Try.func18, Try.ntmps18
  go_wp2_with fail
  refine HC.out.mono ?_
  rintro e w1 ⟨⟨rfl, hno⟩ | ⟨k, hk, rfl, hp, hno⟩, rfl⟩
  · have HL := Lib.hid (lessL_all hno)
    clear hno
    go_wp2_with fail
    go_ret
    exact ⟨by rw [HL.out, HX.out]; rfl, by rw [HL.out]; exact HQ.out, .refl _ _⟩
  · have HL := Lib.hid (lessL_at hk hp hno)
    have hk0 : ¬ ((k : Int) = -1) := by omega
    have hkb : ((k : Int) == -1) = false := by rw [beq_eq_false_iff_ne]; omega
    have hkn : k < n := by rw [← HX.out]; exact hk
    rcases HQ.out with ⟨rfl, h0, _⟩ | ⟨b, off, rfl, hbl, hle, hm, hso, hfr, hcell⟩
    · exfalso; subst h0; simp at hk
    have hBb : B ≠ b := fun e => HNB.out ⟨_, rfl, e.symm⟩
    have hle' : n ≤ c := by rw [← HX.out]; exact hle
    have HM := Lib.hid hm
    have hcm : (c : Int) ≤ 9223372036854775807 := by unfold maxLen at hm; omega
    have HD := Lib.hid (show DelI w b off c xs (xs.take k) (k + 1) from ⟨fun m h => by
      have h' : m < xs.length := by simp at h; omega
      rw [hcell m h']; simp, fun m h _ => hcell m h, hso, hfr⟩)
    clear hp hno hso hfr hcell hm hle hk
    go_wp2_with fail
    go_loopw [6, 5, 7] (fun j i _ wr => ∃ m q : Nat, k < m ∧ m ≤ n ∧ j = .int .i64 m ∧ i = .int .i64 q ∧ q = (lessL v (xs.take m)).length ∧ q < m ∧ DelI wr b off c xs (lessL v (xs.take m)) m ∧ Up b w wr) (fun j _ _ _ => n - (intOf j).toNat)
    case atStart => exact ⟨k + 1, k, by omega, by omega, by go_num, rfl, by rw [HL.out]; simp; rw [HX.out]; omega, by omega, by rw [HL.out]; exact HD.out, .refl _ _⟩
    case round =>
      obtain ⟨m, q, hkm, hmn, rfl, rfl, hql, hqm, hd, hu⟩ := hrel
      have HQL := Lib.hid hql
      have HDI := Lib.hid hd
      have HU := Lib.hid hu
      clear hql hd hu HD HC HL
      by_cases hlt : m < n
      · have hmx : m < xs.length := by rw [HX.out]; exact hlt
        have HS := Lib.hid (lessL_succ v hmx)
        have hc := HDI.out.hi m hmx (Nat.le_refl _)
        obtain ⟨y, hy⟩ : ∃ y, xs[m] = y := ⟨_, rfl⟩
        rw [hy] at HS hc
        have HG := Lib.hid (give1_any B v y wr (HU.out.cell HB.out hBb))
        clear hy
        cases hp : eqB v y
        · have HS1 := Lib.hid (HS.out.trans (if_neg (by rw [hp]; simp)))
          rw [hp] at HG
          clear hp HS
          obtain ⟨u0, cq⟩ := Option.isSome_iff_exists.1 (HDI.out.so q (by omega))
          have fq := HDI.out.fr (off + q)
          go_wp2_with fail
          refine HG.out.mono ?_
          rintro e w2 ⟨rfl, rfl⟩
          go_wp2_with fail
          go_roundw
          case rel =>
            refine ⟨m + 1, q + 1, by omega, by omega, by go_num, by go_num, ?_, by omega, ?_, HU.out.set _ _⟩
            · rw [HS1.out, List.length_append, ← HQL.out]; rfl
            · have := HDI.out.put (by rw [← HQL.out]; exact hqm) (by rw [← HQL.out]; omega) y
              rw [← HQL.out] at this
              rw [HS1.out]; exact this
          case measure => simp [intOf]; omega
        · have HS1 := Lib.hid (HS.out.trans (if_pos hp))
          rw [hp] at HG
          clear hp HS
          go_wp2_with fail
          refine HG.out.mono ?_
          rintro e w2 ⟨rfl, rfl⟩
          go_wp2_with fail
          go_roundw
          case rel => exact ⟨m + 1, q, by omega, by omega, by go_num, rfl, by rw [HS1.out]; exact HQL.out, by omega, by rw [HS1.out]; exact HDI.out.skip, HU.out⟩
          case measure => simp [intOf]; omega
      · obtain rfl : m = n := by omega
        have hd := HDI.out
        have hq2 := HQL.out
        rw [List.take_of_length_le (by rw [HX.out]; omega)] at hd hq2
        have HD2 := Lib.hid hd
        have HQ2 := Lib.hid hq2
        clear hd hq2 HDI HQL
        have hq0 : (0 : Int) ≤ (q : Int) := by omega
        have hq1 : (q : Int) ≤ (m : Int) := by omega
        have hq3 : (m : Int) ≤ (c : Int) := by omega
        have hq4 : ¬ q = c := by omega
        go_wp2_with (with_reducible refine wpList_clear_ints rfl (.tmp 38) 30 3 rfl Try.underlying30 zero_int b (off + q) (m - q) (c - q) rfl (by omega) (fun j hj => by rw [Nat.add_assoc]; exact HD2.out.so _ (by omega)) HD2.out.fr ?_; intro w3 hw3)
        go_ret
        have hqu := HD2.out.clear (m - q) (by rw [← HQ2.out]; omega) (Nat.lt_of_lt_of_le hbl HU.out.size) HM.out
        rw [← HQ2.out] at hqu
        refine ⟨by rw [← HQ2.out]; rfl, hqu, ?_⟩
        exact .of_up (setCells_up _ _ _ _ _ HU.out) ⟨_, rfl, rfl⟩

end Go.Proofs.Ytdjncbfoecoedaa
