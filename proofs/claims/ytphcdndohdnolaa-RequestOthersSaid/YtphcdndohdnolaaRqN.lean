/-
  THE DOCUMENT's NUMBER AND TEXT (grommetref01).
-/
import Derived.Test.YtphcdndohdnolaaOctX
namespace Go.Proofs.Ytphcdndohdnolaa
open Go.RowKit Go.Shelf
set_option linter.unusedVariables false

theorem own_below {w w' : World} (hb : Below w.heap.size w w') {base : Nat} {e : TypeId} {size : Nat} {v : Value} {n : Nat} {xs : List Value} (h : w.ownsRow base e size v n xs) : w'.ownsRow base e size v n xs := by
  have hl := h.lt
  refine ⟨h.1, ?_⟩
  rcases h.2 with h | ⟨g, cap, cur, h1, h2, h3, h4⟩
  · exact .inl h
  · exact .inr ⟨g, cap, cur, h1, h2, (hb.block g (hl g (by rw [h1]; rfl)).2).trans h3, h4⟩
theorem own_slice {w : World} {base : Nat} {e : TypeId} {size : Nat} {v : Value} {n : Nat} {xs : List Value} (h : w.ownsRow base e size v n xs) : ∃ a c, v = .slice a n c := by
  rcases h.2 with ⟨h1, h2⟩ | ⟨g, cap, cur, hv, _⟩
  · exact ⟨none, 0, by rw [h1, h2]⟩
  · exact ⟨_, _, hv⟩
theorem own_ne {A B : World} {b1 b2 : Nat} {e1 e2 : TypeId} {s1 s2 : Nat} {v1 v2 : Value} {n1 n2 : Nat} {x1 x2 : List Value} (hA : A.heap.size ≤ b2) (h1 : A.ownsRow b1 e1 s1 v1 n1 x1) (h2 : B.ownsRow b2 e2 s2 v2 n2 x2) : v2.ownBlock = none ∨ v2.ownBlock ≠ v1.ownBlock := by
  cases hv : v2.ownBlock with
  | none => exact .inl rfl
  | some k =>
    refine .inr (fun e => ?_)
    have := (h1.lt k e.symm).2
    have := (h2.lt k hv).1
    omega
theorem div_zero {n t : Nat} (hn : n < 18446744073709551616) : n / 256 ^ t = 0 ↔ nb n ≤ t := by
  obtain ⟨h1, h2⟩ := nb_spec n hn
  rw [Nat.div_eq_zero_iff]
  constructor
  · intro h
    rcases h with h | h
    · exact absurd h (Nat.ne_of_gt (Nat.pow_pos (by decide)))
    · by_cases h0 : n = 0
      · subst h0; rw [nb_zero]; omega
      · obtain ⟨h3, h4⟩ := h2 h0
        by_cases hh : nb n ≤ t
        · exact hh
        · have : 256 ^ t ≤ 256 ^ (nb n - 1) := Nat.pow_le_pow_right (by decide) (by omega)
          omega
  · intro h
    have : 256 ^ nb n ≤ 256 ^ t := Nat.pow_le_pow_right (by decide) h
    right; omega

set_option maxHeartbeats 4000000 in
set_option maxRecDepth 100000 in
theorem refnum_any (a : Option Addr) (len cap : Nat) (zs : List Int) (hl : zs.length = len) (hreach : len ≤ 140737488354000) (n : Nat) (hn : (n : Int) ≤ 18446744073709551615) (w : World) (hI : Ints w.heap.size .u8 w a zs) :
    Calls Try.prog 26 #[.slice a len cap, .int .u64 (n : Int)] w (OwnR w (zs ++ numL n)) := by
  obtain ⟨i0, hi, hz0, hz1, hz2⟩ := info_parts8 info_u8
  have HL := Lib.hid hl
  have HNN := Lib.hid hn
  have hk8 : nb n ≤ 8 := nb_le (by omega)
  have HNL := Lib.hid (show numL n = (nb n : Int) :: bytesL (nb n) n from rfl)
  have HD := Lib.hid (fun t => div_zero (n := n) (t := t) (by omega))
  obtain ⟨K, hK⟩ : ∃ K, nb n = K := ⟨_, rfl⟩
  rw [hK] at hk8 HNL HD
  clear hK hl
  go_enter Try.func26, Try.ntmps26
  go_wp2_with (at_builtin; refine wpList_append_ints _ rfl (.tmp 7) (.tmp 8) 25 rfl w.heap.size 5 i0 (.int .u8 0) 1 Try.underlying25 hi hz0 hz1 hz2 rfl _ 0 [] rfl (World.ownsRow_made _ #[] 0 (Nat.le_refl _) (Nat.zero_le _) (by simp)) _ len cap .u8 zs w.heap.size rfl HL.out (Ints.below ((Below.refl _ w).alloc (Nat.le_refl _) _) hI) (by unfold maxLen; omega) (by omega) (by simp) ?_; intro v1 w1 hown1 hgrow1; have hb1 : Below w.heap.size w w1 := ((Below.refl _ w).alloc (Nat.le_refl _) _).grown hgrow1 (by simp) (fun k e => by cases e; exact Nat.le_refl _); clear hgrow1; simp only [Nat.zero_add, List.nil_append] at hown1; obtain ⟨a1, c1, rfl⟩ := own_slice hown1)
  clear hI
  have hs1 := hb1.size
  go_loopw [1, 6] (fun nn o wr => ∃ t : Nat, t ≤ K ∧ nn = .int .u64 ((n / 256 ^ t : Nat) : Int) ∧ wr.ownsRow w1.heap.size 5 1 o t ((bytesL t n).map (.int .u8)) ∧ Below w1.heap.size w1 wr) (fun nn _ _ => (intOf nn).toNat)
  case atStart => exact ⟨0, Nat.zero_le _, by simp, World.ownsRow_nil _ _ _ _, Below.refl _ _⟩
  case round =>
    obtain ⟨t, ht, rfl, ho, hB⟩ := hrel
    have hsB := hB.size
    obtain ⟨ao, co, rfl⟩ := own_slice ho
    have hm : ((n / 256 ^ t : Nat) : Int) ≤ 18446744073709551615 := by have := Nat.div_le_self n (256 ^ t); have := HNN.out; omega
    have HM := Lib.hid (show n / 256 ^ (t + 1) = n / 256 ^ t / 256 by rw [Nat.pow_succ, Nat.div_div_eq_div_mul])
    have HB := Lib.hid (bytesL_snoc t n)
    have HDt := Lib.hid (HD.out t)
    obtain ⟨m, hmm⟩ : ∃ m, n / 256 ^ t = m := ⟨_, rfl⟩
    rw [hmm] at hm HM HB HDt
    simp only [hmm]
    clear hmm
    by_cases h0 : m = 0
    · have htK : t = K := by have := HDt.out.1 h0; omega
      subst htK
      subst h0
      have HI := Lib.hid (Ints.of_owns ho)
      have hv1 := own_below hB hown1
      have hlen2 : len + 1 + t ≤ 140737488354100 := by omega
      have hne := own_ne (b1 := w.heap.size) (b2 := w1.heap.size) (Nat.le_refl _) hown1 ho
      clear hown1
      go_wp2_with (first
        | (at_builtin; refine wpList_append_ints _ rfl (.tmp 20) (.tmp 24) 25 rfl w.heap.size 5 i0 (.int .u8 0) 1 Try.underlying25 hi hz0 hz1 hz2 rfl _ _ _ rfl (hv1.alloc _) _ 1 1 .u8 [(t : Int)] _ rfl rfl (Ints.one _ _ _ _) (by unfold maxLen; omega) (by omega) (by simp; omega) ?_; intro v3 w3 hown3 hgrow3; rw [← List.map_append] at hown3; have ho3 := (ho.alloc (.cells #[.int .u8 t] 5)).kept hgrow3 hne; have hb3 : Below w.heap.size w w3 := Below.grownRow ((hb1.trans (hB.mono hs1)).alloc (by omega) _) hgrow3 (by simp; omega) (hv1.alloc _) (Nat.le_refl _); clear hgrow3; have hs3 := hb3.size; have HO3 := Lib.hid (Ints.of_owns ho3); clear ho3)
        | (at_builtin; refine wpList_append_ints _ rfl (.tmp 25) (.tmp 26) 25 rfl w.heap.size 5 i0 (.int .u8 0) 1 Try.underlying25 hi hz0 hz1 hz2 rfl _ _ _ rfl hown3 ao t co .u8 (bytesL t n) w3.heap.size rfl (bytesL_length t n) (by obtain ⟨a', c', he, _, hI⟩ := HO3.out; cases he; exact hI) (by unfold maxLen; omega) (by omega) hs3 ?_; intro v4 w4 hown4 hgrow4; rw [← List.map_append] at hown4; have hb4 : Below w.heap.size w w4 := Below.grownRow hb3 hgrow4 hs3 hown3 (Nat.le_refl _); clear hgrow4)
        | fail)
      go_ret
      refine ⟨_, rfl, ?_, ⟨hb4⟩⟩
      rw [HNL.out]
      have : (zs ++ (t : Int) :: bytesL t n) = zs ++ [(t : Int)] ++ bytesL t n := by simp
      rw [this, List.length_append, List.length_append, bytesL_length, HL.out]
      exact hown4
    · have hlt : t < K := by
        have := HDt.out
        apply Classical.byContradiction; intro hh; exact h0 (this.2 (by omega))
      have hmp : 0 < m := by omega
      have hmr : m % 256 % 256 = m % 256 := by omega
      clear h0
      go_wp2_with (at_builtin; refine wpList_append_ints _ rfl (.tmp 12) (.tmp 16) 25 rfl w1.heap.size 5 i0 (.int .u8 0) 1 Try.underlying25 hi hz0 hz1 hz2 rfl _ _ _ rfl (ho.alloc _) _ 1 1 .u8 [((m % 256 : Nat) : Int)] _ rfl rfl (Ints.one _ _ _ _) (by unfold maxLen; omega) (by omega) (by simp; omega) ?_; intro v3 w3 hown3 hgrow3; have hb3 : Below w1.heap.size w1 w3 := Below.grownRow (hB.alloc hsB _) hgrow3 (by simp; omega) (ho.alloc _) (Nat.le_refl _); clear hgrow3; rw [← List.map_append] at hown3)
      go_roundw
      case rel => exact ⟨t + 1, by omega, by rw [HM.out]; go_num, by rw [HB.out]; exact hown3, hb3⟩
      case measure => simp [intOf]; omega

set_option maxHeartbeats 2000000 in
theorem reftext_any (a : Option Addr) (len cap : Nat) (zs : List Int) (s : ByteArray) (hl : zs.length = len) (hreach : len + s.size ≤ 140737488353000) (w : World) (hI : Ints w.heap.size .u8 w a zs) :
    Calls Try.prog 27 #[.slice a len cap, .string s] w (OwnR w (zs ++ (numL s.size ++ strB s))) := by
  obtain ⟨i0, hi, hz0, hz1, hz2⟩ := info_parts8 info_u8
  have hs8 : nb s.size ≤ 8 := nb_le (by omega)
  have hll : (zs ++ numL s.size).length ≤ len + 9 := by rw [List.length_append, numL_length, hl]; omega
  have HC := Lib.hid (refnum_any a len cap zs hl (by omega) s.size (by omega) w hI)
  have hres : s.size ≤ 140737488353000 := by omega
  have hsum : (zs ++ numL s.size).length + s.size ≤ 140737488353100 := by omega
  have HSL := Lib.hid (strB_length s)
  have HCC := Lib.hid (strB_cells s)
  generalize hys : zs ++ numL s.size = ys at HC hll hsum
  have HY := Lib.hid hys
  clear hys hI hl
  go_enter Try.func27, Try.ntmps27
  go_wp2_with fail
  refine HC.out.mono ?_
  rintro e w1 ⟨v1, rfl, ho1, hw1⟩
  have hs0 := hw1.b.size
  go_wp2_with (at_builtin; refine Lib.wpList_append_own_string _ rfl _ _ 25 9 rfl w.heap.size 5 i0 Try.underlying25 Try.underlying9 hi hz0 hz1 hz2 _ _ _ rfl ho1 s rfl (by unfold maxLen; omega) (by omega) hs0 ?_; intro v2 w2 hown2 hgrow2 _; have hb2 : Below w.heap.size w w2 := Below.grownRow hw1.b hgrow2 hs0 ho1 (Nat.le_refl _); clear hgrow2)
  go_ret
  refine ⟨_, rfl, ?_, ⟨hb2⟩⟩
  rw [HCC.out, ← List.map_append] at hown2
  rw [← List.append_assoc, HY.out, List.length_append, HSL.out]
  exact hown2

end Go.Proofs.Ytphcdndohdnolaa
