/-
  WHAT IS PUT IS READ AGAIN: the plain law.
-/
import Derived.Test.YtphcdndohdnolaaOctX
namespace Go.Proofs.Ytphcdndohdnolaa
open Go.RowKit Go.Shelf
set_option linter.unusedVariables false

theorem valL_bytesL (k n : Nat) : valL (bytesL k n) = ((n % 256 ^ k : Nat) : Int) := by
  induction k generalizing n with
  | zero => simp [bytesL, valL, Nat.mod_one]
  | succ k ih =>
    rw [bytesL, valL, ih, Nat.pow_succ, Nat.mul_comm, Nat.mod_mul]
    omega
theorem bytesL_valL (own : List Int) (h : ∀ x ∈ own, isByte x) : bytesL own.length (valL own).toNat = own := by
  induction own with
  | nil => rfl
  | cons c cs ih =>
    obtain ⟨c0, c1⟩ := h c (List.mem_cons_self)
    obtain ⟨v0, _⟩ := valL_bd cs (fun x hx => h x (List.mem_of_mem_tail hx))
    have ih' := ih (fun x hx => h x (List.mem_of_mem_tail hx))
    rw [List.length_cons, bytesL, valL]
    have e1 : (((c + 256 * valL cs).toNat % 256 : Nat) : Int) = c := by omega
    have e2 : (c + 256 * valL cs).toNat / 256 = (valL cs).toNat := by omega
    rw [e1, e2, ih']

/-- A number is read again, whatever stands behind. -/
theorem num_again (n : Nat) (hn : n < 18446744073709551616) (r : List Int) : (numV (numL n ++ r)).1 = n ∧ numS (numL n ++ r) = (numL n).length ∧ (numL n ++ r).drop (numL n).length = r := by
  have hk := nb_le hn
  have hkz : kOf (numL n ++ r) = nb n := by simp [kOf, numL]
  have hl : (numL n ++ r).length = 1 + nb n + r.length := by rw [List.length_append, numL_length]
  have hown : ownL (numL n ++ r) = bytesL (nb n) n := by
    unfold ownL
    rw [hkz, numL, List.cons_append, List.drop_succ_cons, List.drop_zero]
    rw [List.take_append_of_le_length (by rw [bytesL_length]; exact Nat.le_refl _), List.take_of_length_le (by rw [bytesL_length]; exact Nat.le_refl _)]
  have hp : numP (numL n ++ r) := by
    refine ⟨by omega, by omega, by omega, fun h => ?_⟩
    rw [hkz] at h
    obtain ⟨h1, h2⟩ := h
    have ht := nb_top hn h1
    have : (numL n ++ r)[nb n]?.getD 0 = ((n / 256 ^ (nb n - 1) % 256 : Nat) : Int) := by
      obtain ⟨j, hj⟩ : ∃ j, nb n = j + 1 := ⟨nb n - 1, by omega⟩
      have e := bytesL_get (nb n) n j (by omega)
      rw [numL, List.cons_append, hj, List.getElem?_cons_succ, ← hj, List.getElem?_append_left (by rw [bytesL_length]; omega), e]
      rw [hj]; rfl
    rw [this] at h2
    omega
  refine ⟨?_, ?_, ?_⟩
  · unfold numV
    rw [if_pos hp, hown]
    dsimp only
    rw [valL_bytesL, Nat.mod_eq_of_lt (nb_spec n hn).1]
  · unfold numS; rw [if_pos hp, hkz, numL_length]
  · rw [List.drop_left]

theorem nb_of {n k : Nat} (hn : n < 18446744073709551616) (h1 : n < 256 ^ k) (h2 : k = 0 ∨ 256 ^ (k - 1) ≤ n) : nb n = k := by
  obtain ⟨s1, s2⟩ := nb_spec n hn
  rcases h2 with rfl | h2
  · have : n = 0 := by simp at h1; exact h1
    subst this; exact nb_zero
  · by_cases hk0 : k = 0
    · subst hk0
      have : n = 0 := by simp at h1; exact h1
      subst this; exact nb_zero
    have hn0 : n ≠ 0 := by
      intro e; subst e
      have : 0 < 256 ^ (k - 1) := Nat.pow_pos (by decide)
      omega
    obtain ⟨s3, s4⟩ := s2 hn0
    rcases Nat.lt_trichotomy (nb n) k with h | h | h
    · have : 256 ^ nb n ≤ 256 ^ (k - 1) := Nat.pow_le_pow_right (by decide) (by omega)
      omega
    · exact h
    · have : 256 ^ k ≤ 256 ^ (nb n - 1) := Nat.pow_le_pow_right (by decide) (by omega)
      omega
theorem valL_top (own : List Int) (h : ∀ x ∈ own, isByte x) (hk : 0 < own.length) (ht : own[own.length - 1]?.getD 0 ≠ 0) : ((256 ^ (own.length - 1) : Nat) : Int) ≤ valL own := by
  induction own with
  | nil => simp at hk
  | cons c cs ih =>
    obtain ⟨c0, c1⟩ := h c (List.mem_cons_self)
    have hcs : ∀ x ∈ cs, isByte x := fun x hx => h x (List.mem_of_mem_tail hx)
    obtain ⟨v0, _⟩ := valL_bd cs hcs
    rw [valL]
    by_cases h0 : cs.length = 0
    · have : cs = [] := List.length_eq_zero_iff.1 h0
      subst this
      simp [valL] at ht ⊢
      omega
    · have := ih hcs (by omega) (by
        rw [List.length_cons, Nat.add_sub_cancel] at ht
        obtain ⟨j, hj⟩ : ∃ j, cs.length = j + 1 := ⟨cs.length - 1, by omega⟩
        rw [hj, List.getElem?_cons_succ] at ht
        rw [hj, Nat.add_sub_cancel]; exact ht)
      rw [List.length_cons, Nat.add_sub_cancel]
      obtain ⟨j, hj⟩ : ∃ j, cs.length = j + 1 := ⟨cs.length - 1, by omega⟩
      rw [hj, Nat.add_sub_cancel] at this
      rw [hj, Nat.pow_succ]
      omega
/-- A number that is read, put again, is what stood there. -/
theorem put_again (zs : List Int) (hz : ∀ x ∈ zs, isByte x) (h : numS zs ≠ 0) : zs.take (numS zs) = numL (numV zs).1.toNat := by
  by_cases hp : numP zs
  · have e1 : numS zs = 1 + kOf zs := by unfold numS; rw [if_pos hp]
    have e2 : (numV zs).1 = valL (ownL zs) := by unfold numV; rw [if_pos hp]
    obtain ⟨p1, p2, p3, p4⟩ := hp
    have hob : ∀ x ∈ ownL zs, isByte x := fun x hx => hz x (List.mem_of_mem_drop (List.mem_of_mem_take hx))
    have hol : (ownL zs).length = kOf zs := by unfold ownL; simp; omega
    obtain ⟨v0, v1⟩ := valL_bd (ownL zs) hob
    rw [hol] at v1
    have hv64 : (valL (ownL zs)).toNat < 18446744073709551616 := by
      have hp : 256 ^ kOf zs ≤ 256 ^ 8 := Nat.pow_le_pow_right (by decide) p2
      have h8 : (256 : Nat) ^ 8 = 18446744073709551616 := by decide
      omega
    have hnb : nb (valL (ownL zs)).toNat = kOf zs := by
      refine nb_of hv64 (by omega) ?_
      by_cases hk0 : kOf zs = 0
      · exact .inl hk0
      · refine .inr ?_
        have ht : (ownL zs)[(ownL zs).length - 1]?.getD 0 ≠ 0 := by
          rw [hol]
          have : (ownL zs)[kOf zs - 1]?.getD 0 = zs[kOf zs]?.getD 0 := by
            unfold ownL
            rw [List.getElem?_take_of_lt (by omega), List.getElem?_drop]
            congr 2; omega
          rw [this]
          exact fun e => p4 ⟨by omega, e⟩
        have := valL_top (ownL zs) hob (by omega) ht
        rw [hol] at this
        omega
    rw [e1, e2, numL, hnb]
    have hb := bytesL_valL (ownL zs) hob
    rw [hol] at hb
    rw [hb]
    cases zs with
    | nil => simp at p1
    | cons c cs =>
      obtain ⟨c0, c1⟩ := hz c (List.mem_cons_self)
      rw [Nat.add_comm, List.take_succ_cons]
      congr 1
      show c = ((kOf (c :: cs) : Nat) : Int)
      unfold kOf
      simp
      omega
  · exact absurd (by unfold numS; rw [if_neg hp]) h

/-- An item: a number, or a text. -/
structure It where
  is : Bool
  n : Int
  s : ByteArray
def itOk (x : It) : Prop := 0 ≤ x.n ∧ x.n ≤ 18446744073709551615
/-- The bytes of an item; of items. -/
def itL (x : It) : List Int := if x.is then numL x.s.size ++ strB x.s else numL x.n.toNat
def itsL (l : List It) : List Int := l.flatMap itL
theorem itL_pos (x : It) : 0 < (itL x).length := by
  unfold itL; split
  · rw [List.length_append, numL_length]; omega
  · rw [numL_length]; omega
theorem itL_byte (x : It) (hx : itOk x) (hs : x.s.size < 18446744073709551616) : ∀ c ∈ itL x, isByte c := by
  unfold itL
  split
  · intro c hc
    rcases List.mem_append.1 hc with h | h
    · exact numL_byte _ hs c h
    · exact strB_byte _ c h
  · exact numL_byte _ (by have := hx.1; have := hx.2; omega)
theorem itL_len (x : It) (hx : itOk x) (hs : x.s.size ≤ 1024) : (itL x).length ≤ 1033 := by
  unfold itL
  split
  · have := nb_le (n := x.s.size) (by omega)
    rw [List.length_append, numL_length, strB_length]; omega
  · have := nb_le (n := x.n.toNat) (by have := hx.1; have := hx.2; omega)
    rw [numL_length]; omega
theorem itsL_snoc (l : List It) (x : It) : itsL (l ++ [x]) = itsL l ++ itL x := by simp [itsL]
theorem itsL_cons (l : List It) (x : It) : itsL (x :: l) = itL x ++ itsL l := by simp [itsL]
theorem take_snoc' {α : Type} (l : List α) (k : Nat) (h : k < l.length) : l.take (k + 1) = l.take k ++ [l[k]] := List.take_succ_eq_append_getElem h
/-- The next item is read again. -/
theorem it_number (x : It) (hx : itOk x) (hi : x.is = false) (r : List Int) : numR (itL x ++ r) false = x.n ∧ stepT (itL x ++ r) false (numS (itL x ++ r)) = (r, false) := by
  have hn := hx.1
  have hn2 := hx.2
  unfold itL
  rw [hi]
  simp only [Bool.false_eq_true, if_false]
  obtain ⟨h1, h2, h3⟩ := num_again x.n.toNat (by omega) r
  refine ⟨?_, ?_⟩
  · unfold numR; simp only [Bool.false_eq_true, if_false, h1]; omega
  · unfold stepT
    rw [if_neg (by simp), h2, if_neg (by rw [numL_length]; omega), h3]
theorem it_text (x : It) (hi : x.is = true) (hs : x.s.size ≤ 1024) (r : List Int) : txtR (itL x ++ r) false x.s.size = x.s ∧ stepT (itL x ++ r) false (txtS (itL x ++ r) x.s.size) = (r, false) := by
  unfold itL
  rw [hi]
  simp only [if_true]
  rw [List.append_assoc]
  obtain ⟨h1, h2, h3⟩ := num_again x.s.size (by omega) (strB x.s ++ r)
  have hp : txtP (numL x.s.size ++ (strB x.s ++ r)) x.s.size := by
    refine ⟨by rw [h2, numL_length]; omega, by omega, by rw [h1]; exact Int.le_refl _, ?_⟩
    rw [h1, h2, List.length_append, List.length_append, strB_length]
    omega
  obtain ⟨y1, y2⟩ := txt_yes hp
  have hL : txtL (numL x.s.size ++ (strB x.s ++ r)) = strB x.s := by
    unfold txtL
    rw [h2, h3, h1, Int.toNat_natCast, List.take_append_of_le_length (by rw [strB_length]; exact Nat.le_refl _), List.take_of_length_le (by rw [strB_length]; exact Nat.le_refl _)]
  refine ⟨?_, ?_⟩
  · unfold txtR
    simp only [Bool.false_eq_true, if_false, y1, hL, strOf_strB]
  · unfold stepT
    rw [if_neg (by simp), y2, h1, h2, Int.toNat_natCast, if_neg (by rw [numL_length]; omega)]
    congr 1
    rw [← List.append_assoc, show (numL x.s.size).length + x.s.size = (numL x.s.size ++ strB x.s).length by rw [List.length_append, strB_length], List.drop_left]

/-- A number that is cut is none. -/
theorem num_cut (n : Nat) (hn : n < 18446744073709551616) (j : Nat) (hj : j < (numL n).length) : numS ((numL n).take j) = 0 := by
  have hk := nb_le hn
  rw [numL_length] at hj
  have hl : ((numL n).take j).length = j := by rw [List.length_take, numL_length]; omega
  unfold numS
  rw [if_neg]
  intro h
  obtain ⟨h1, h2, h3, _⟩ := h
  rw [hl] at h1 h3
  have : kOf ((numL n).take j) = nb n := by
    obtain ⟨m, rfl⟩ : ∃ m, j = m + 1 := ⟨j - 1, by omega⟩
    simp [kOf, numL]
  omega
theorem cut_number (x : It) (hx : itOk x) (hi : x.is = false) (j : Nat) (hj : j < (itL x).length) : numR ((itL x).take j) false = 0 ∧ stepT ((itL x).take j) false (numS ((itL x).take j)) = ((itL x).take j, true) := by
  have hn := hx.1
  have hn2 := hx.2
  unfold itL at hj ⊢
  rw [hi] at hj ⊢
  simp only [Bool.false_eq_true, if_false] at hj ⊢
  have h0 := num_cut x.n.toNat (by omega) j hj
  refine ⟨?_, ?_⟩
  · unfold numR; simp only [Bool.false_eq_true, if_false]; exact numV_zero _ h0
  · unfold stepT; rw [if_neg (by simp), if_pos h0]
theorem cut_text (x : It) (hi : x.is = true) (hs : x.s.size ≤ 1024) (j : Nat) (hj : j < (itL x).length) : txtR ((itL x).take j) false x.s.size = ByteArray.empty ∧ stepT ((itL x).take j) false (txtS ((itL x).take j) x.s.size) = ((itL x).take j, true) := by
  unfold itL at hj ⊢
  rw [hi] at hj ⊢
  simp only [if_true] at hj ⊢
  have hno : ¬ txtP ((numL x.s.size ++ strB x.s).take j) x.s.size := by
    by_cases hjl : j < (numL x.s.size).length
    · rw [List.take_append_of_le_length (by omega)]
      exact fun h => h.1 (num_cut _ (by omega) j hjl)
    · intro h
      obtain ⟨m, hm⟩ : ∃ m, j = (numL x.s.size).length + m := ⟨j - (numL x.s.size).length, by omega⟩
      rw [hm, List.take_length_add_append] at h
      obtain ⟨h1, h2, _⟩ := num_again x.s.size (by omega) ((strB x.s).take m)
      have h4 := h.2.2.2
      rw [h1, h2, List.length_append, List.length_take, strB_length] at h4
      rw [List.length_append, strB_length, hm] at hj
      omega
  obtain ⟨y1, y2⟩ := txt_no hno
  refine ⟨?_, ?_⟩
  · unfold txtR; simp only [Bool.false_eq_true, if_false, y1]
  · unfold stepT; rw [if_neg (by simp), y2, if_pos rfl]

/-- How many bytes the first k items have. -/
def endOf (l : List It) (k : Nat) : Nat := (itsL (l.take k)).length
theorem endOf_succ (l : List It) (k : Nat) (h : k < l.length) : endOf l (k + 1) = endOf l k + (itL l[k]).length := by
  unfold endOf; rw [take_snoc' l k h, itsL_snoc, List.length_append]
theorem endOf_all (l : List It) : endOf l l.length = (itsL l).length := by unfold endOf; rw [List.take_length]
theorem endOf_le (l : List It) (k : Nat) : endOf l k ≤ (itsL l).length := by
  have : itsL l = itsL (l.take k) ++ itsL (l.drop k) := by unfold itsL; rw [← List.flatMap_append, List.take_append_drop]
  rw [this, List.length_append]; unfold endOf; omega
/-- What is left of what was cut at c, behind the first k items. -/
def restL (l : List It) (c k : Nat) : List Int := (itsL (l.drop k)).take (c - endOf l k)
theorem restL_zero (l : List It) (c : Nat) : restL l c 0 = (itsL l).take c := by simp [restL, endOf, itsL]
theorem restL_cut (l : List It) (c k : Nat) (h : k < l.length) (he : endOf l k ≤ c) (hc : c < endOf l (k + 1)) : restL l c k = (itL l[k]).take (c - endOf l k) ∧ c - endOf l k < (itL l[k]).length := by
  rw [endOf_succ l k h] at hc
  unfold restL
  rw [List.drop_eq_getElem_cons h, itsL_cons, List.take_append_of_le_length (by omega)]
  exact ⟨rfl, by omega⟩
theorem restL_go (l : List It) (c k : Nat) (h : k < l.length) (hc : endOf l (k + 1) ≤ c) : restL l c k = itL l[k] ++ restL l c (k + 1) := by
  have e := endOf_succ l k h
  unfold restL
  obtain ⟨m, hm⟩ : ∃ m, c - endOf l k = (itL l[k]).length + m := ⟨c - endOf l k - (itL l[k]).length, by omega⟩
  rw [List.drop_eq_getElem_cons h, itsL_cons, hm, List.take_length_add_append]
  congr 2; omega

end Go.Proofs.Ytphcdndohdnolaa
