/-
  THE WALKS OF octet.Text, octet.Unpack, works.
-/
import Derived.Test.YtciagdechmkgjaaOctI
namespace Go.Proofs.Ytciagdechmkgjaa
open Go.RowKit Go.Shelf
set_option linter.unusedVariables false

theorem numL_byte (n : Nat) (h : n < 18446744073709551616) : ∀ x ∈ numL n, isByte x := by
  intro x hx
  simp only [numL, List.mem_cons] at hx
  rcases hx with rfl | hx
  · have := nb_le h; exact ⟨by omega, by omega⟩
  · have : ∀ k m, ∀ y ∈ bytesL k m, isByte y := by
      intro k
      induction k with
      | zero => intro m y hy; simp [bytesL] at hy
      | succ k ih =>
        intro m y hy
        simp only [bytesL, List.mem_cons] at hy
        rcases hy with rfl | hy
        · exact ⟨by omega, by omega⟩
        · exact ih _ y hy
    exact this _ _ x hx

theorem u64_of_wf {n : Int} (h : (Lit.int .u64 n).wf = true) : 0 ≤ n ∧ n ≤ 18446744073709551615 := by
  simp [Lit.wf, IntKind.min, IntKind.max, IntKind.bits, IntKind.signed] at h
  omega
theorem i64_of_wf {n : Int} (h : (Lit.int .i64 n).wf = true) : -9223372036854775808 ≤ n ∧ n ≤ 9223372036854775807 := by
  simp [Lit.wf, IntKind.min, IntKind.max, IntKind.bits, IntKind.signed] at h
  omega
theorem u16_of_wf {n : Int} (h : (Lit.int .u16 n).wf = true) : 0 ≤ n ∧ n ≤ 65535 := by
  simp [Lit.wf, IntKind.min, IntKind.max, IntKind.bits, IntKind.signed] at h
  omega
theorem byte_of_wf {n : Int} (h : (Lit.int .u8 n).wf = true) : isByte n := by
  simp [Lit.wf, IntKind.min, IntKind.max, IntKind.bits, IntKind.signed] at h
  unfold isByte
  omega

theorem OwnR.slice {w w' : World} {zs : List Int} {e : Ending} (h : OwnR w zs e w') : ∃ a c, e = .returned (.slice a zs.length c) ∧ Ints w'.heap.size .u8 w' a zs ∧ Nw w w' ∧ zs.length ≤ c := by
  obtain ⟨v, rfl, ho, hn⟩ := h
  obtain ⟨a, c, rfl, _, hI⟩ := Ints.of_owns ho
  exact ⟨a, c, rfl, hI, hn, own_cap ho⟩
theorem OwnU.slice {w w' : World} {zs : List Int} {e : Ending} (h : OwnU w zs e w') : ∃ a c, e = .returned (.slice a zs.length c) ∧ Ints w'.heap.size .u64 w' a zs ∧ Nw w w' ∧ zs.length ≤ c := by
  obtain ⟨v, rfl, ho, hn⟩ := h
  obtain ⟨a, c, rfl, _, hI⟩ := Ints.of_owns ho
  exact ⟨a, c, rfl, hI, hn, own_cap ho⟩

set_option maxHeartbeats 2000000 in
theorem text_any (a : Option Addr) (len cap : Nat) (zs : List Int) (s : ByteArray) (hl : zs.length = len) (hreach : len + s.size ≤ 140737488353000) (w : World) (hI : Ints w.heap.size .u8 w a zs) :
    Calls Try.prog 23 #[.slice a len cap, .string s] w (OwnR w (zs ++ (numL s.size ++ strB s))) := by
  obtain ⟨i0, hi, hz0, hz1, hz2⟩ := info_parts8 info_u8
  have hs8 : nb s.size ≤ 8 := nb_le (by omega)
  have hll : (zs ++ numL s.size).length ≤ len + 9 := by rw [List.length_append, numL_length, hl]; omega
  have HC := Lib.hid (number_any a len cap zs hl (by omega) s.size (by omega) w hI)
  have hres : s.size ≤ 140737488353000 := by omega
  have hsum : (zs ++ numL s.size).length + s.size ≤ 140737488353100 := by omega
  have HSL := Lib.hid (strB_length s)
  have HCC := Lib.hid (strB_cells s)
  generalize hys : zs ++ numL s.size = ys at HC hll hsum
  have HY := Lib.hid hys
  clear hys hI hl
  go_enter Try.func23, Try.ntmps23
  go_wp2_with fail
  refine HC.out.mono ?_
  rintro e w1 ⟨v1, rfl, ho1, hw1⟩
  have hs0 := hw1.b.size
  go_wp2_with (at_builtin; refine Lib.wpList_append_own_string _ rfl _ _ 23 9 rfl w.heap.size 5 i0 Try.underlying23 Try.underlying9 hi hz0 hz1 hz2 _ _ _ rfl ho1 s rfl (by unfold maxLen; omega) (by omega) hs0 ?_; intro v2 w2 hown2 hgrow2 _; have hb2 : Below w.heap.size w w2 := Below.grownRow hw1.b hgrow2 hs0 ho1 (Nat.le_refl _); clear hgrow2)
  go_ret
  refine ⟨_, rfl, ?_, ⟨hb2⟩⟩
  rw [HCC.out, ← List.map_append] at hown2
  rw [← List.append_assoc, HY.out, List.length_append, HSL.out]
  exact hown2

theorem number_none (n : Nat) (hn : (n : Int) ≤ 18446744073709551615) (w : World) : Calls Try.prog 9 #[.slice none 0 0, .int .u64 (n : Int)] w (OwnR w (numL n)) :=
  number_any none 0 0 [] rfl (by omega) n hn w (.inl rfl)

theorem Nw.tape {w0 w w' : World} (h : Nw w0 w) {t : Nat} (ht : w0.heap.size ≤ t) (k : Up t w w') : Nw w0 w' := ⟨Up.below h.b k h.b.size ht⟩

theorem ew1 : numR [2, 2, 0] false = 0 := by decide +kernel
theorem ew2 : stepT [2, 2, 0] false (numS [2, 2, 0]) = ([2, 2, 0], true) := by decide +kernel
theorem ew3 : packL (strB ⟨#[97]⟩) = [97] := by decide +kernel
theorem ew4 : numL 0 = [0] := by decide +kernel
theorem ew5 : ([7] ++ numL 258 : List Int) = [7, 2, 2, 1] := by decide +kernel
theorem ew6 : ([] ++ (numL (ByteArray.mk #[97, 98]).size ++ strB ⟨#[97, 98]⟩) : List Int) = [1, 2, 97, 98] := by decide +kernel
theorem ew7 : strOfNums [0] = ⟨#[0]⟩ := by decide +kernel
theorem ew8 : strOfNums [7, 2, 2, 1] = ⟨#[7, 2, 2, 1]⟩ := by decide +kernel
theorem ew9 : strOfNums [1, 2, 97, 98] = ⟨#[1, 2, 97, 98]⟩ := by decide +kernel

theorem cv8 {w : World} {ax : Option Addr} {len n₀ : Nat} (c : Nat) {zs : List Int} (hl : zs.length = len) (hI : Ints n₀ .u8 w ax zs) : (convert 23 9 (.slice ax len c)).run Try.prog w = .ok (.string (strOfNums zs)) w :=
  conv_run (P := Try.prog) (w := w) 23 9 5 Try.underlying23 Try.underlying5 Try.underlying9 c hl hI

set_option maxRecDepth 100000 in
set_option maxHeartbeats 2000000 in
theorem works_any (w : World) : Calls Try.prog 10 #[] w fun e w' => e = .returned (.bool true) ∧ Nw w w' := by
  have H1 := Lib.hid (show Ints (w.alloc (.cells #[.int .u8 2, .int .u8 2, .int .u8 0] 5)).heap.size .u8 (w.alloc (.cells #[.int .u8 2, .int .u8 2, .int .u8 0] 5)) (some ⟨w.heap.size, 0, none⟩) [2, 2, 0] from
    .inr ⟨_, 0, rfl, by simp, fun j hj => by
      have : j = 0 ∨ j = 1 ∨ j = 2 := by simp at hj; omega
      rcases this with rfl | rfl | rfl <;> simp⟩)
  have HB : Hid (∀ x ∈ ([2, 2, 0] : List Int), isByte x) := by intro x hx; simp at hx; unfold isByte; omega
  go_enter Try.func10, Try.ntmps10
  go_wp2_with fail
  refine (new_any _ 3 3 [2, 2, 0] rfl (by omega) HB.out _ H1.out).mono ?_
  rintro e w1 ⟨t, rfl, ht, hT, hN⟩
  have HT := Lib.hid hT
  have hN1 : Nw w w1 := (Nw.refl.alloc _).trans hN
  have ht1 : w.heap.size ≤ t := by simp at ht; omega
  have HN := Lib.hid hN1
  clear hT hN hN1 ht H1 HB
  go_wp2_with fail
  refine (tnumber_any t _ _ _ HT.out).mono ?_
  rintro e w2 ⟨rfl, hT2, hU2⟩
  rw [ew2] at hT2
  rw [ew1]
  have HT2 := Lib.hid hT2
  have HN2 := Lib.hid (HN.out.tape ht1 hU2)
  clear hT2 hU2 HT HN
  go_wp2_with fail
  refine (pack_any _ (by decide) _).mono ?_
  intro e w3 h3
  rw [ew3] at h3
  obtain ⟨a3, c3, rfl, hI3, hN3, hc3⟩ := h3.slice
  have HT3 := Lib.hid (HT2.out.nw hN3)
  have HN3 := Lib.hid (HN2.out.trans hN3)
  have HI3 := Lib.hid hI3
  clear h3 hI3 hN3 HT2 HN2
  go_wp2_with fail
  refine (number_none 0 (by decide) _).mono ?_
  intro e w4 h4
  rw [ew4] at h4
  obtain ⟨a4, c4, rfl, hI4, hN4, hc4⟩ := h4.slice
  have hcv4 := cv8 (len := 1) c4 rfl hI4
  rw [ew7] at hcv4
  have HT4 := Lib.hid (HT3.out.nw hN4)
  have HN4 := Lib.hid (HN3.out.trans hN4)
  have HI4 := Lib.hid (hN4.ints HI3.out)
  clear h4 hI4 hN4 HT3 HN3 HI3
  go_wp2_with fail
  have H5 : Hid (Ints (w4.alloc (.cells #[.int .u8 7] 5)).heap.size .u8 (w4.alloc (.cells #[.int .u8 7] 5)) (some ⟨w4.heap.size, 0, none⟩) [7]) := (Ints.one .u8 w4 7 5).mono (by simp)
  refine (number_any _ 1 1 [7] rfl (by omega) 258 (by decide) _ H5.out).mono ?_
  intro e w5 h5
  rw [ew5] at h5
  obtain ⟨a5, c5, rfl, hI5, hN5', hc5⟩ := h5.slice
  have hN5 : Nw w4 w5 := (Nw.refl.alloc _).trans hN5'
  have hcv5 := cv8 (len := 4) c5 rfl hI5
  rw [ew8] at hcv5
  have HT5 := Lib.hid (HT4.out.nw hN5)
  have HN5 := Lib.hid (HN4.out.trans hN5)
  have HI5 := Lib.hid (hN5.ints HI4.out)
  clear h5 hI5 hN5 hN5' H5 HT4 HN4 HI4 hcv4
  go_wp2_with fail
  refine (text_any none 0 0 [] _ rfl (by decide) _ (.inl rfl)).mono ?_
  intro e w6 h6
  rw [ew6] at h6
  obtain ⟨a6, c6, rfl, hI6, hN6, hc6⟩ := h6.slice
  have hcv6 := cv8 (len := 4) c6 rfl hI6
  rw [ew9] at hcv6
  have HT6 := Lib.hid (HT5.out.nw hN6)
  have HN6 := Lib.hid (HN5.out.trans hN6)
  have hI7 := hN6.ints HI5.out
  obtain ⟨b7, o7, ha7, _, hc7⟩ := hI7.at (j := 0) (by simp)
  subst ha7
  rw [Nat.add_zero] at hc7
  simp only [List.getElem_cons_zero] at hc7
  clear h6 hI6 hN6 hI7 HT5 HN5 HI5 hcv5
  go_wp2_with fail
  refine (torn_any t _ _ _ HT6.out).mono ?_
  rintro e w7 ⟨rfl, rfl⟩
  go_wp2_with fail
  refine (end_any t _ _ _ HT6.out).mono ?_
  rintro e w7 ⟨rfl, rfl⟩
  have he : endB [2, 2, 0] true = false := rfl
  rw [he]
  clear he
  go_wp2_with fail
  go_ret
  exact ⟨rfl, HN6.out⟩

end Go.Proofs.Ytciagdechmkgjaa
