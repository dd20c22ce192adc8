/-
  WRITES THAT ARE UNDER WAY, PLAINLY: Over of what is seen is all of them, or none.
-/
import Derived.Test.YtkopfnldgnkkoaaGp
namespace Go.Proofs.Ytkopfnldgnkkoaa
open Go.RowKit Go.Shelf
set_option linter.unusedVariables false

/-- Words as a function. -/
def fnL (zs : List Int) : Nat → Int := fun k => zs[k]?.getD 0
theorem list_eq {xs ys : List Int} (hl : xs.length = ys.length) (h : ∀ k, k < xs.length → fnL xs k = fnL ys k) : xs = ys := by
  refine List.ext_getElem hl fun k h1 h2 => ?_
  have := h k h1
  unfold fnL at this
  rw [List.getElem?_eq_getElem h1, List.getElem?_eq_getElem h2] at this
  exact this
theorem wrote_cons (x : Wr) (l : List Wr) (s : Nat → Int) : wrote (x :: l) s = wrote l (fun k => if k = x.1.toNat then x.2 else s k) := rfl
theorem wrote_out : ∀ (l : List Wr) (s : Nat → Int) (k : Nat), (∀ x ∈ l, x.1.toNat ≠ k) → wrote l s k = s k
  | [], s, k, _ => rfl
  | x :: l, s, k, h => by
    rw [wrote_cons, wrote_out l _ k fun y hy => h y (List.mem_cons_of_mem _ hy)]
    exact if_neg (Ne.symm (h x List.mem_cons_self))
theorem wrote_congr : ∀ (l : List Wr) (s t : Nat → Int) (k : Nat), s k = t k → wrote l s k = wrote l t k
  | [], s, t, k, h => h
  | x :: l, s, t, k, h => by
    rw [wrote_cons, wrote_cons]
    refine wrote_congr l _ _ k ?_
    rw [h]
theorem wrote_in : ∀ (l : List Wr) (s t : Nat → Int) (k : Nat), (∃ x ∈ l, x.1.toNat = k) → wrote l s k = wrote l t k
  | x :: l, s, t, k, h => by
    rw [wrote_cons, wrote_cons]
    by_cases e : x.1.toNat = k
    · refine wrote_congr l _ _ k ?_
      rw [if_pos e.symm, if_pos e.symm]
    · obtain ⟨y, hy, e2⟩ := h
      rcases List.mem_cons.1 hy with rfl | hy
      · exact absurd e2 e
      · exact wrote_in l _ _ k ⟨y, hy, e2⟩
theorem wrote_uniq : ∀ (l : List Wr) (s : Nat → Int) (x : Wr), x ∈ l → (l.Pairwise fun a b => a.1.toNat ≠ b.1.toNat) → wrote l s x.1.toNat = x.2
  | y :: l, s, x, hx, h => by
    rw [wrote_cons]
    rw [List.pairwise_cons] at h
    rcases List.mem_cons.1 hx with rfl | hx
    · rw [wrote_out l _ _ fun z hz => Ne.symm (h.1 z hz)]
      exact if_pos rfl
    · exact wrote_uniq l _ x hx h.2
/-- Some of them first, all of them then: all of them. -/
theorem wrote_some (l : List Wr) (t : Nat) (s : Nat → Int) (k : Nat) : wrote l (wrote (l.take t) s) k = wrote l s k := by
  by_cases h : ∃ x ∈ l, x.1.toNat = k
  · exact wrote_in l _ _ k h
  · refine wrote_congr l _ _ k (wrote_out _ _ k fun x hx e => h ⟨x, List.mem_of_mem_take hx, e⟩)
theorem putsL_fn : ∀ (l : List Wr) (zs : List Int) (k : Nat), k < zs.length → fnL (putsL zs l) k = wrote l (fnL zs) k
  | [], zs, k, _ => rfl
  | x :: l, zs, k, hk => by
    show fnL (putsL (zs.set x.1.toNat x.2) l) k = _
    rw [putsL_fn l _ k (by rw [List.length_set]; exact hk), wrote_cons]
    refine wrote_congr l _ _ k ?_
    show (zs.set x.1.toNat x.2)[k]?.getD 0 = _
    by_cases e : k = x.1.toNat
    · subst e; rw [if_pos rfl, List.getElem?_set_self hk]; rfl
    · rw [if_neg e, List.getElem?_set_ne (Ne.symm e)]; rfl

/-! ### What Over is, word by word -/
theorem ovTo_fn (g : G) (ws : List Int) (k : Nat) (hk : k < ws.length) : ∀ K, fnL (ovTo g ws K) k = wrote ((List.range K).flatMap fun j => comL g (areaL ws j)) (fnL ws) k
  | 0 => rfl
  | K + 1 => by
    show fnL (putsL (ovTo g ws K) (comL g (areaL ws K))) k = _
    rw [putsL_fn _ _ _ (by rw [ovTo_len]; exact hk), List.range_succ, List.flatMap_append, wrote_append]
    simp only [List.flatMap_cons, List.flatMap_nil, List.append_nil]
    exact wrote_congr _ _ _ _ (ovTo_fn g ws k hk K)
/-- Where the areas stand. -/
def inAr (g : G) (k : Nat) : Prop := 264 ≤ k ∧ k < 264 + 208 * g.w.toNat
instance (g : G) (k : Nat) : Decidable (inAr g k) := by unfold inAr; infer_instance
def comAll (g : G) (ws : List Int) : List Wr := (List.range g.w.toNat).flatMap fun j => comL g (areaL ws j)
theorem overL_fn {g : G} {ws : List Int} (ho : ovOk g ws.length) (k : Nat) (hk : k < ws.length) : fnL (overL g ws) k = if inAr g k then 0 else wrote (comAll g ws) (fnL ws) k := by
  unfold overL
  rw [if_pos ho]
  show (clr (ovTo g ws g.w.toNat) (264 + 208 * g.w.toNat))[k]?.getD 0 = _
  rw [clr_at, List.getElem?_eq_getElem (by rw [ovTo_len]; exact hk)]
  simp only [Option.map_some, Option.getD_some]
  have h2 := ovTo_fn g ws k hk g.w.toNat
  unfold fnL at h2
  rw [List.getElem?_eq_getElem (by rw [ovTo_len]; exact hk)] at h2
  simp only [Option.getD_some] at h2
  by_cases h : inAr g k
  · rw [if_pos h]; exact if_pos h
  · rw [if_neg h]; exact (if_neg h).trans h2
theorem overL_len' {g : G} {ws : List Int} (ho : ovOk g ws.length) : (overL g ws).length = ws.length := by
  unfold overL; rw [if_pos ho, clr_len, ovTo_len]

/-! ### A record that stands in an area -/
theorem mark_rec {o : List Wr} (hn : o.length ≤ 96) (hok : okW o) (hg : neg o = false) (z : List Int) : markV (recL o ++ z) = markV (recL o) ∧ markV (recL o) ≠ 0 := by
  have hs : u64 (sumOf (bodyL o)) := rec_u64 hn hok hg _ (by unfold recL; simp)
  have h1 := (Has.of_rec hn z).mark hs
  have h2 := (Has.of_rec hn []).mark hs
  rw [List.append_nil] at h2
  exact ⟨h1.trans h2.symm, by rw [h2]; have := Int.emod_nonneg (sumOf (bodyL o) * 65536) (b := 18446744073709551616) (by decide); omega⟩
theorem com_rec {g : G} {o : List Wr} (hm : mayW g o = true) (hok : okW o) {ar z : List Int} (ha : ar.drop 8 = recL o ++ z) (hh : hd ar = markV (recL o)) : comL g ar = o := by
  have hn := (may_small hm).1
  have hg := may_neg hm
  have hmk := mark_rec hn hok hg z
  have hH := Has.of_rec hn z
  have hrd : readOk g (recL o ++ z) = true := by rw [hH.ok_may g]; exact hm
  unfold comL comOk
  rw [ha, hh, hrd, hmk.1]
  rw [if_pos (by simp [hmk.2])]
  unfold readL
  rw [if_pos hrd, hH.readN, hH.pairs]

/-- The writes of a run of a worker's. -/
def runW (area : Int) (o : List Wr) : List Wr := ownW area (recL o) ++ [(area, markV (recL o))] ++ (o ++ [(area, 0)])
theorem own_apart (area : Int) (h0 : 0 ≤ area) (ws : List Int) : (ownW area ws).Pairwise fun a b => a.1.toNat ≠ b.1.toNat := by
  unfold ownW
  rw [List.pairwise_map]
  refine List.Pairwise.imp ?_ List.pairwise_lt_range
  intro a b h; dsimp only; omega
theorem own_mem {area : Int} {ws : List Int} {x : Wr} (h : x ∈ ownW area ws) : ∃ i, i < ws.length ∧ x = (area + 8 + (i : Int), ws[i]?.getD 0) := by
  simp only [ownW, List.mem_map, List.mem_range] at h
  obtain ⟨i, hi, rfl⟩ := h
  exact ⟨i, hi, rfl⟩
theorem own_at (area : Nat) (ws : List Int) (s : Nat → Int) (j : Nat) (hj : j < ws.length) : wrote (ownW (area : Int) ws) s (area + 8 + j) = ws[j]?.getD 0 := by
  have hm : ((area : Int) + 8 + (j : Int), ws[j]?.getD 0) ∈ ownW (area : Int) ws := by
    simp only [ownW, List.mem_map, List.mem_range]; exact ⟨j, hj, rfl⟩
  have := wrote_uniq _ s _ hm (own_apart (area : Int) (by omega) ws)
  dsimp only at this
  rw [show ((area : Int) + 8 + (j : Int)).toNat = area + 8 + j by omega] at this
  exact this
/-- A prefix of the writes. -/
theorem runW_take (area : Int) (o : List Wr) (i : Nat) : (∃ j, (runW area o).take i = (ownW area (recL o)).take j) ∨ (∃ j, (runW area o).take i = ownW area (recL o) ++ [(area, markV (recL o))] ++ o.take j) ∨ (runW area o).take i = runW area o := by
  unfold runW
  by_cases h1 : i ≤ (ownW area (recL o)).length
  · exact .inl ⟨i, by rw [List.append_assoc, List.take_append_of_le_length h1]⟩
  · by_cases h2 : i ≤ (ownW area (recL o)).length + 1 + o.length
    · refine .inr (.inl ⟨i - ((ownW area (recL o)).length + 1), ?_⟩)
      rw [List.take_append, List.take_of_length_le (by simp; omega)]
      congr 1
      rw [List.take_append_of_le_length (by simp; omega)]
      simp
    · exact .inr (.inr (List.take_of_length_le (by simp; omega)))
/-- ALL OF THEM: Over of what is seen is all. -/
theorem quiet_all {g : G} {base : List Int} {o : List Wr} {m : Nat} (ho : ovOk g base.length) (hz : ∀ k, inAr g k → fnL base k = 0) (hm : (m : Int) < g.w) (hmay : mayW g o = true) (hok : okW o) (hout : ∀ x ∈ o, ¬ inAr g x.1.toNat)
    : overL g (putsL base (runW (264 + 208 * (m : Int)) o)) = putsL base o := by
  obtain ⟨hwm, hww⟩ := ho
  have ho : ovOk g base.length := ⟨hwm, hww⟩
  have hw1 : 1 ≤ g.w ∧ g.w ≤ 4 := ⟨hwm.1, hwm.2.1⟩
  have hn := (may_small hmay).1
  have hmk := (mark_rec hn hok (may_neg hmay) []).2
  have hrl := recL_len o
  obtain ⟨A, hA⟩ : ∃ A : Nat, A = 264 + 208 * m := ⟨_, rfl⟩
  have hAi : (264 + 208 * (m : Int)) = (A : Int) := by omega
  rw [hAi]
  have hAend := (ov_words ho m hm).1
  -- of a list of writes: what is seen of words
  have hlen : ∀ P, (putsL base P).length = base.length := fun P => putsL_len base P
  -- the areas' commit words
  have hcom0 : ∀ (S : List Int), S.length = base.length → (∀ j : Nat, (j : Int) < g.w → fnL S (264 + 208 * j) = 0) → comAll g S = [] := fun S hS h => by
    unfold comAll
    rw [List.flatMap_eq_nil_iff]
    intro j hj
    have hj := List.mem_range.1 hj
    exact comL_zero ((hd_area S j).trans (h j (by omega)))
  have hcw : ∀ j : Nat, (j : Int) < g.w → inAr g (264 + 208 * j) ∧ 264 + 208 * j < base.length := fun j hj => by
    have := (ov_words ho j hj).1
    exact ⟨⟨by omega, by omega⟩, by omega⟩
  have hown : ∀ x ∈ ownW (A : Int) (recL o), inAr g x.1.toNat ∧ (∀ j : Nat, x.1.toNat ≠ 264 + 208 * j) := fun x hx => by
    obtain ⟨i, hi, rfl⟩ := own_mem hx
    rw [hrl] at hi
    refine ⟨⟨by dsimp only; omega, by dsimp only; omega⟩, fun j => by dsimp only; omega⟩
  have hrun : ∀ k, wrote (runW (A : Int) o) (fnL base) k = if k = A then 0 else wrote o (wrote [((A : Int), markV (recL o))] (wrote (ownW (A : Int) (recL o)) (fnL base))) k := fun k => by
    unfold runW
    rw [wrote_append, wrote_append, wrote_append]
    show (if k = ((A : Int)).toNat then _ else _) = _
    rw [show ((A : Int)).toNat = A by omega]
  have hc0 := hcom0 (putsL base (runW (A : Int) o)) (hlen _) (fun j hj => by
    obtain ⟨h1, h2⟩ := hcw j hj
    rw [putsL_fn _ _ _ h2, hrun]
    by_cases e2 : 264 + 208 * j = A
    · rw [if_pos e2]
    · rw [if_neg e2, wrote_out _ _ (264 + 208 * j) (fun x hx e => hout x hx (e ▸ h1)), wrote_out _ _ (264 + 208 * j) (fun x hx e => by
        rw [List.mem_singleton.1 hx] at e
        dsimp only at e
        omega), wrote_out _ _ (264 + 208 * j) (fun x hx => (hown x hx).2 j)]
      exact hz _ h1)
  have hoS : ovOk g (putsL base (runW (A : Int) o)).length := by rw [hlen]; exact ho
  refine list_eq (by rw [overL_len' hoS, hlen, hlen]) fun k hk => ?_
  rw [overL_len' hoS, hlen] at hk
  rw [overL_fn hoS k (by rw [hlen]; exact hk), putsL_fn _ _ _ hk, hc0]
  by_cases ha : inAr g k
  · rw [if_pos ha, wrote_out _ _ k (fun x hx e => hout x hx (e ▸ ha)), hz k ha]
  · rw [if_neg ha]
    show fnL (putsL base (runW (A : Int) o)) k = _
    rw [putsL_fn _ _ _ hk, hrun, if_neg (fun e => ha (by subst e; exact ⟨by omega, by omega⟩))]
    refine wrote_congr o _ _ k ?_
    rw [wrote_out _ _ k (fun x hx e => ha (by
        rw [List.mem_singleton.1 hx] at e
        dsimp only at e
        subst e
        exact ⟨by omega, by omega⟩)), wrote_out _ _ k fun x hx e => ha (e ▸ (hown x hx).1)]
/-- THE PREFIXES: Over of what is seen is all, or none. -/
theorem quiet_over {g : G} {base : List Int} {o : List Wr} {m : Nat} (ho : ovOk g base.length) (hz : ∀ k, inAr g k → fnL base k = 0) (hm : (m : Int) < g.w) (hmay : mayW g o = true) (hok : okW o) (hout : ∀ x ∈ o, ¬ inAr g x.1.toNat)
    (i : Nat) : overL g (putsL base ((runW (264 + 208 * (m : Int)) o).take i)) = base ∨ overL g (putsL base ((runW (264 + 208 * (m : Int)) o).take i)) = putsL base o := by
  obtain ⟨hwm, hww⟩ := ho
  have ho : ovOk g base.length := ⟨hwm, hww⟩
  have hw1 : 1 ≤ g.w ∧ g.w ≤ 4 := ⟨hwm.1, hwm.2.1⟩
  have hn := (may_small hmay).1
  have hmk := (mark_rec hn hok (may_neg hmay) []).2
  have hrl := recL_len o
  obtain ⟨A, hA⟩ : ∃ A : Nat, A = 264 + 208 * m := ⟨_, rfl⟩
  have hAi : (264 + 208 * (m : Int)) = (A : Int) := by omega
  rw [hAi]
  have hAend := (ov_words ho m hm).1
  -- of a list of writes: what is seen of words
  have hlen : ∀ P, (putsL base P).length = base.length := fun P => putsL_len base P
  -- the areas' commit words
  have hcom0 : ∀ (S : List Int), S.length = base.length → (∀ j : Nat, (j : Int) < g.w → fnL S (264 + 208 * j) = 0) → comAll g S = [] := fun S hS h => by
    unfold comAll
    rw [List.flatMap_eq_nil_iff]
    intro j hj
    have hj := List.mem_range.1 hj
    exact comL_zero ((hd_area S j).trans (h j (by omega)))
  have hcw : ∀ j : Nat, (j : Int) < g.w → inAr g (264 + 208 * j) ∧ 264 + 208 * j < base.length := fun j hj => by
    have := (ov_words ho j hj).1
    exact ⟨⟨by omega, by omega⟩, by omega⟩
  have hown : ∀ x ∈ ownW (A : Int) (recL o), inAr g x.1.toNat ∧ (∀ j : Nat, x.1.toNat ≠ 264 + 208 * j) := fun x hx => by
    obtain ⟨i, hi, rfl⟩ := own_mem hx
    rw [hrl] at hi
    refine ⟨⟨by dsimp only; omega, by dsimp only; omega⟩, fun j => by dsimp only; omega⟩
  rcases runW_take (A : Int) o i with ⟨j, e⟩ | ⟨j, e⟩ | e
  · -- no mark: none
    left
    rw [e]
    have hin : ∀ x ∈ (ownW (A : Int) (recL o)).take j, inAr g x.1.toNat ∧ (∀ j : Nat, x.1.toNat ≠ 264 + 208 * j) := fun x hx => hown x (List.mem_of_mem_take hx)
    generalize (ownW (A : Int) (recL o)).take j = P at hin
    refine list_eq (by rw [overL_len' (by rw [hlen]; exact ho), hlen]) fun k hk => ?_
    rw [overL_len' (by rw [hlen]; exact ho), hlen] at hk
    rw [overL_fn (by rw [hlen]; exact ho) k (by rw [hlen]; exact hk)]
    by_cases ha : inAr g k
    · rw [if_pos ha, hz k ha]
    · rw [if_neg ha, hcom0 _ (hlen P) (fun j hj => by
        obtain ⟨h1, h2⟩ := hcw j hj
        rw [putsL_fn _ _ _ h2, wrote_out _ _ _ fun x hx => (hin x hx).2 j]
        exact hz _ h1)]
      show fnL (putsL base P) k = _
      rw [putsL_fn _ _ _ hk, wrote_out _ _ k fun x hx e => ha (e ▸ (hin x hx).1)]
  · -- the mark stands: all
    right
    rw [e]
    obtain ⟨S, hS⟩ : ∃ S, putsL base (ownW (A : Int) (recL o) ++ [((A : Int), markV (recL o))] ++ o.take j) = S := ⟨_, rfl⟩
    have hSl : S.length = base.length := by rw [← hS]; exact hlen _
    have hSf : ∀ k, k < base.length → fnL S k = wrote (o.take j) (wrote [((A : Int), markV (recL o))] (wrote (ownW (A : Int) (recL o)) (fnL base))) k := fun k hk => by
      rw [← hS, putsL_fn _ _ _ hk, wrote_append, wrote_append]
    have hoj : ∀ x ∈ o.take j, ¬ inAr g x.1.toNat := fun x hx => hout x (List.mem_of_mem_take hx)
    -- in the areas the writes themselves turn nothing
    have hSa : ∀ k, k < base.length → inAr g k → fnL S k = if k = A then markV (recL o) else wrote (ownW (A : Int) (recL o)) (fnL base) k := fun k hk ha => by
      rw [hSf k hk, wrote_out _ _ k fun x hx e => hoj x hx (e ▸ ha)]
      show (if k = ((A : Int)).toNat then _ else _) = _
      rw [show ((A : Int)).toNat = A by omega]
    have hAr : ∀ q, q < 208 → (areaL S m)[q]?.getD 0 = fnL S (A + q) := fun q hq => by
      unfold areaL fnL
      rw [List.getElem?_take_of_lt hq, List.getElem?_drop, hA]
    have hAl : (areaL S m).length = 208 := areaL_len S m (by rw [hSl]; omega)
    have hcm : comL g (areaL S m) = o := by
      refine com_rec (z := ((areaL S m).drop 8).drop (recL o).length) hmay hok ?_ ?_
      · refine list_eq (by rw [List.length_append, List.length_drop, List.length_drop, hAl, List.length_drop, hAl, hrl]; omega) fun q hq => ?_
        rw [List.length_drop, hAl] at hq
        by_cases hqr : q < (recL o).length
        · unfold fnL
          rw [List.getElem?_append_left hqr, List.getElem?_drop, hAr _ (by omega), hSa _ (by omega) ⟨by omega, by omega⟩, if_neg (by omega), ← Nat.add_assoc, own_at A (recL o) (fnL base) q hqr]
        · unfold fnL
          rw [List.getElem?_append_right (by omega), List.getElem?_drop, List.getElem?_drop, List.getElem?_drop]
          congr 2
          omega
      · rw [hd_area, ← hA]
        have := hSa A (by omega) ⟨by omega, by omega⟩
        rw [if_pos rfl] at this
        exact this
    have hcall : comAll g S = o := by
      unfold comAll
      have hsplit : List.range g.w.toNat = List.range m ++ [m] ++ (List.range (g.w.toNat - (m + 1))).map (fun q => m + 1 + q) := by
        rw [← List.range_succ, ← List.range_add]
        congr 1; omega
      have hno : ∀ q : Nat, (q : Int) < g.w → q ≠ m → comL g (areaL S q) = [] := fun q hq hne => by
        obtain ⟨h1, h2⟩ := hcw q hq
        refine comL_zero ((hd_area S q).trans ?_)
        have := hSa (264 + 208 * q) h2 h1
        rw [if_neg (by omega), wrote_out _ _ _ fun x hx => (hown x hx).2 q, hz _ h1] at this
        exact this
      have e1 : ((List.range m).flatMap fun j => comL g (areaL S j)) = [] := List.flatMap_eq_nil_iff.2 (fun q hq => hno q (by have := List.mem_range.1 hq; omega) (by have := List.mem_range.1 hq; omega))
      have e3 : (((List.range (g.w.toNat - (m + 1))).map (fun q => m + 1 + q)).flatMap fun j => comL g (areaL S j)) = [] := List.flatMap_eq_nil_iff.2 (fun q hq => by
        obtain ⟨t, ht, rfl⟩ := List.mem_map.1 hq
        have := List.mem_range.1 ht
        exact hno _ (by omega) (by omega))
      rw [hsplit, List.flatMap_append, List.flatMap_append, e1, e3]
      simp only [List.flatMap_cons, List.flatMap_nil, List.append_nil, List.nil_append]
      exact hcm
    rw [hS]
    have hoS : ovOk g S.length := by rw [hSl]; exact ho
    refine list_eq (by rw [overL_len' hoS, hSl, hlen]) fun k hk => ?_
    rw [overL_len' hoS, hSl] at hk
    rw [overL_fn hoS k (by rw [hSl]; exact hk), putsL_fn _ _ _ hk, hcall]
    by_cases ha : inAr g k
    · rw [if_pos ha, wrote_out _ _ k (fun x hx e => hout x hx (e ▸ ha)), hz k ha]
    · rw [if_neg ha]
      have h3 : wrote [((A : Int), markV (recL o))] (wrote (ownW (A : Int) (recL o)) (fnL base)) k = fnL base k := by
        rw [wrote_out _ _ k (fun x hx e => ha (by
          rw [List.mem_singleton.1 hx] at e
          dsimp only at e
          subst e
          exact ⟨by omega, by omega⟩)), wrote_out _ _ k fun x hx e => ha (e ▸ (hown x hx).1)]
      rw [wrote_congr o _ _ k (hSf k hk), wrote_some]
      exact wrote_congr o _ _ k h3
  · -- all stores: all
    right
    rw [e, ← hAi]
    exact quiet_all ho hz hm hmay hok hout
end Go.Proofs.Ytkopfnldgnkkoaa
