/-
  THE WALK OF octet.Text; what is of all octets.
-/
import Derived.Lib.ConvBytes
import Derived.Test.YtphcdndohdnolaaOctG
namespace Go.Proofs.Ytphcdndohdnolaa
open Go.RowKit Go.Shelf
set_option linter.unusedVariables false

theorem numL_byte (n : Nat) (h : n < 18446744073709551616) : ∀ x ∈ numL n, isByte x := by
  intro x hx
  simp only [numL, List.mem_cons] at hx
  rcases hx with rfl | hx
  · have := nb_le h; exact ⟨by omega, by omega⟩
  · have : ∀ k m, ∀ y ∈ bytesL k m, isByte y := by
      intro k
      induction k with
      | zero => intro m y hy; simp [bytesL] at hy
      | succ k ih =>
        intro m y hy
        simp only [bytesL, List.mem_cons] at hy
        rcases hy with rfl | hy
        · exact ⟨by omega, by omega⟩
        · exact ih _ y hy
    exact this _ _ x hx

theorem u64_of_wf {n : Int} (h : (Lit.int .u64 n).wf = true) : 0 ≤ n ∧ n ≤ 18446744073709551615 := by
  simp [Lit.wf, IntKind.min, IntKind.max, IntKind.bits, IntKind.signed] at h
  omega
theorem i64_of_wf {n : Int} (h : (Lit.int .i64 n).wf = true) : -9223372036854775808 ≤ n ∧ n ≤ 9223372036854775807 := by
  simp [Lit.wf, IntKind.min, IntKind.max, IntKind.bits, IntKind.signed] at h
  omega
theorem u16_of_wf {n : Int} (h : (Lit.int .u16 n).wf = true) : 0 ≤ n ∧ n ≤ 65535 := by
  simp [Lit.wf, IntKind.min, IntKind.max, IntKind.bits, IntKind.signed] at h
  omega
theorem byte_of_wf {n : Int} (h : (Lit.int .u8 n).wf = true) : isByte n := by
  simp [Lit.wf, IntKind.min, IntKind.max, IntKind.bits, IntKind.signed] at h
  unfold isByte
  omega

theorem OwnR.slice {w w' : World} {zs : List Int} {e : Ending} (h : OwnR w zs e w') : ∃ a c, e = .returned (.slice a zs.length c) ∧ Ints w'.heap.size .u8 w' a zs ∧ Nw w w' ∧ zs.length ≤ c := by
  obtain ⟨v, rfl, ho, hn⟩ := h
  obtain ⟨a, c, rfl, _, hI⟩ := Ints.of_owns ho
  exact ⟨a, c, rfl, hI, hn, own_cap ho⟩
set_option maxHeartbeats 2000000 in
theorem text_any (a : Option Addr) (len cap : Nat) (zs : List Int) (s : ByteArray) (hl : zs.length = len) (hreach : len + s.size ≤ 140737488353000) (w : World) (hI : Ints w.heap.size .u8 w a zs) :
    Calls Try.prog 28 #[.slice a len cap, .string s] w (OwnR w (zs ++ (numL s.size ++ strB s))) := by
  obtain ⟨i0, hi, hz0, hz1, hz2⟩ := info_parts8 info_u8
  have hs8 : nb s.size ≤ 8 := nb_le (by omega)
  have hll : (zs ++ numL s.size).length ≤ len + 9 := by rw [List.length_append, numL_length, hl]; omega
  have HC := Lib.hid (number_any a len cap zs hl (by omega) s.size (by omega) w hI)
  have hres : s.size ≤ 140737488353000 := by omega
  have hsum : (zs ++ numL s.size).length + s.size ≤ 140737488353100 := by omega
  have HSL := Lib.hid (strB_length s)
  have HCC := Lib.hid (strB_cells s)
  generalize hys : zs ++ numL s.size = ys at HC hll hsum
  have HY := Lib.hid hys
  clear hys hI hl
  go_enter Try.func28, Try.ntmps28
  go_wp2_with fail
  refine HC.out.mono ?_
  rintro e w1 ⟨v1, rfl, ho1, hw1⟩
  have hs0 := hw1.b.size
  go_wp2_with (at_builtin; refine Lib.wpList_append_own_string _ rfl _ _ 25 9 rfl w.heap.size 5 i0 Try.underlying25 Try.underlying9 hi hz0 hz1 hz2 _ _ _ rfl ho1 s rfl (by unfold maxLen; omega) (by omega) hs0 ?_; intro v2 w2 hown2 hgrow2 _; have hb2 : Below w.heap.size w w2 := Below.grownRow hw1.b hgrow2 hs0 ho1 (Nat.le_refl _); clear hgrow2)
  go_ret
  refine ⟨_, rfl, ?_, ⟨hb2⟩⟩
  rw [HCC.out, ← List.map_append] at hown2
  rw [← List.append_assoc, HY.out, List.length_append, HSL.out]
  exact hown2

theorem number_none (n : Nat) (hn : (n : Int) ≤ 18446744073709551615) (w : World) : Calls Try.prog 29 #[.slice none 0 0, .int .u64 (n : Int)] w (OwnR w (numL n)) :=
  number_any none 0 0 [] rfl (by omega) n hn w (.inl rfl)

theorem Nw.tape {w0 w w' : World} (h : Nw w0 w) {t : Nat} (ht : w0.heap.size ≤ t) (k : Up t w w') : Nw w0 w' := ⟨Up.below h.b k h.b.size ht⟩

theorem cv8 {w : World} {ax : Option Addr} {len n₀ : Nat} (c : Nat) {zs : List Int} (hl : zs.length = len) (hI : Ints n₀ .u8 w ax zs) : (convert 25 9 (.slice ax len c)).run Try.prog w = .ok (.string (strOfNums zs)) w :=
  conv_run (P := Try.prog) (w := w) 25 9 5 Try.underlying25 Try.underlying5 Try.underlying9 c hl hI

end Go.Proofs.Ytphcdndohdnolaa
