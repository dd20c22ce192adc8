/-
  RequestFields' bytes: a request's bytes put together by layer 1 are putL.
-/
import Derived.Deep.DeepCutAuto
import Derived.Test.YtphcdndohdnolaaRqS
namespace Go.Proofs.Ytphcdndohdnolaa
open Go.RowKit Go.Shelf
set_option linter.unusedVariables false

set_option maxRecDepth 100000 in
set_option maxHeartbeats 4000000 in
theorem lby_1 (fl fd ps sz : Nat) (p d t : ByteArray) (hr : smallRq ⟨1, (fl : Int), (fd : Int), (ps : Int), (sz : Int), p, d, t⟩) (w : World) : Calls Try.prog 17 #[rqV ⟨1, (fl : Int), (fd : Int), (ps : Int), (sz : Int), p, d, t⟩] w (OwnR w (putL ⟨1, (fl : Int), (fd : Int), (ps : Int), (sz : Int), p, d, t⟩)) := by
  have R0 := RqAt.new w ⟨1, (fl : Int), (fd : Int), (ps : Int), (sz : Int), p, d, t⟩
  have hn0 : Nw w (w.alloc (.cells #[.int .u8 1, .int .u8 (fl : Int), .int .u64 (fd : Int), .int .u64 (ps : Int), .int .u64 (sz : Int), .string p, .string d, .string t] 24)) := Nw.refl.alloc _
  have HPL := Lib.hid (show putL ⟨1, (fl : Int), (fd : Int), (ps : Int), (sz : Int), p, d, t⟩ = [(1 : Int)] ++ txtB p ++ numL fl from by simp [putL, fdsOf, put1])
  have hfl : (fl : Int) ≤ 255 := hr.ok.flags.2
  have hfd : (fd : Int) ≤ 18446744073709551615 := hr.ok.fd.2
  have hps : (ps : Int) ≤ 18446744073709551615 := hr.ok.pos.2
  have hsz : (sz : Int) ≤ 18446744073709551615 := hr.ok.size.2
  have hsm : p.size + d.size + t.size ≤ 100000 := hr.sm
  have hfl2 : (fl : Int) ≤ 18446744073709551615 := by omega
  have hlen : ∀ n : Nat, (n : Int) ≤ 18446744073709551615 → (numL n).length ≤ 9 := fun n hn => by rw [numL_length]; have := nb_le (n := n) (by omega); omega
  have HLEN := Lib.hid hlen
  have HB := Lib.hid (And.intro hfl2 (And.intro hfd (And.intro hps hsz)))
  unfold rqV
  dsimp only at R0 ⊢
  clear hr hlen
  generalize hW : w.alloc (.cells #[.int .u8 1, .int .u8 (fl : Int), .int .u64 (fd : Int), .int .u64 (ps : Int), .int .u64 (sz : Int), .string p, .string d, .string t] 24) = W1 at R0 hn0
  have HN0 := Lib.hid hn0
  have HR0 := Lib.hid R0
  obtain ⟨c0, c1, c2, c3, c4, c5, c6, c7, _⟩ := R0
  clear hn0
  dsimp only at c0 c1 c2 c3 c4 c5 c6 c7
  go_enter Try.func17, Try.ntmps17
  go_upto_region 2 with fail
  clear hW
  have hI := Ints.one .u8 W1 1 5
  rw [show W1.heap.size + 1 = (W1.alloc (.cells #[.int .u8 1] 5)).heap.size from by simp] at hI
  have HR3 := Lib.hid (HR0.out.nw (Nw.refl.alloc (.cells #[.int .u8 1] 5)))
  have HN3 := Lib.hid (HN0.out.alloc (.cells #[.int .u8 1] 5))
  clear c0 c1 c2 c3 c4 c5 c6 c7
  generalize W1.alloc (.cells #[.int .u8 1] 5) = W3 at hI HR3 HN3 ⊢
  generalize W1.heap.size = B at hI ⊢
  have HI := Lib.hid hI
  clear hI
  obtain ⟨c0, c1, c2, c3, c4, c5, c6, c7, _⟩ := HR3.out
  dsimp only at c0 c1 c2 c3 c4 c5 c6 c7
  go_wp2_with fail
  refine (text_any (some ⟨B, 0, none⟩) 1 1 [(1 : Int)] p rfl (by omega) W3 HI.out).mono ?_
  intro e w4 h4
  obtain ⟨a4, cp4, n4, hn4, rfl, hI4, hN4, _⟩ := OwnR.app (zs := [(1 : Int)]) (ys := txtB p) Nw.refl h4
  have HX := Lib.hid (show Calls Try.prog 29 #[.slice a4 n4 cp4, .int .u64 (fl : Int)] w4 (OwnR w4 ([(1 : Int)] ++ txtB p ++ numL fl)) from number_any a4 n4 cp4 _ hn4.symm (by rw [hn4]; simp only [List.length_append, List.length_cons, List.length_nil, txtB, strB_length]; have := HLEN.out p.size (by omega); omega) fl HB.out.1 w4 hI4)
  clear c0 c1 c2 c3 c4 c5 c6 c7 h4 hI4 hn4
  obtain ⟨c0, c1, c2, c3, c4, c5, c6, c7, _⟩ := HR3.out.nw hN4
  dsimp only at c0 c1 c2 c3 c4 c5 c6 c7
  have hwr : IntKind.u64.wrap (fl : Int) = (fl : Int) := by
    have : IntKind.u64.wrap (fl : Int) = (fl : Int) % 18446744073709551616 := by simp [IntKind.wrap, IntKind.bits, IntKind.signed]
    omega
  go_wp2_with fail
  refine HX.out.mono ?_
  rintro e w5 ⟨v5, rfl, ho5, hN5⟩
  go_wp2_with fail
  go_ret
  rw [HPL.out]
  exact OwnR.mono (HN3.out.trans hN4) ⟨_, rfl, ho5, hN5⟩

set_option maxRecDepth 100000 in
set_option maxHeartbeats 4000000 in
theorem lby_2 (fl fd ps sz : Nat) (p d t : ByteArray) (hr : smallRq ⟨2, (fl : Int), (fd : Int), (ps : Int), (sz : Int), p, d, t⟩) (w : World) : Calls Try.prog 17 #[rqV ⟨2, (fl : Int), (fd : Int), (ps : Int), (sz : Int), p, d, t⟩] w (OwnR w (putL ⟨2, (fl : Int), (fd : Int), (ps : Int), (sz : Int), p, d, t⟩)) := by
  have R0 := RqAt.new w ⟨2, (fl : Int), (fd : Int), (ps : Int), (sz : Int), p, d, t⟩
  have hn0 : Nw w (w.alloc (.cells #[.int .u8 2, .int .u8 (fl : Int), .int .u64 (fd : Int), .int .u64 (ps : Int), .int .u64 (sz : Int), .string p, .string d, .string t] 24)) := Nw.refl.alloc _
  have HPL := Lib.hid (show putL ⟨2, (fl : Int), (fd : Int), (ps : Int), (sz : Int), p, d, t⟩ = [(2 : Int)] ++ numL fd from by simp [putL, fdsOf, put1])
  have hfl : (fl : Int) ≤ 255 := hr.ok.flags.2
  have hfd : (fd : Int) ≤ 18446744073709551615 := hr.ok.fd.2
  have hps : (ps : Int) ≤ 18446744073709551615 := hr.ok.pos.2
  have hsz : (sz : Int) ≤ 18446744073709551615 := hr.ok.size.2
  have hsm : p.size + d.size + t.size ≤ 100000 := hr.sm
  have hfl2 : (fl : Int) ≤ 18446744073709551615 := by omega
  have hlen : ∀ n : Nat, (n : Int) ≤ 18446744073709551615 → (numL n).length ≤ 9 := fun n hn => by rw [numL_length]; have := nb_le (n := n) (by omega); omega
  have HLEN := Lib.hid hlen
  have HB := Lib.hid (And.intro hfl2 (And.intro hfd (And.intro hps hsz)))
  unfold rqV
  dsimp only at R0 ⊢
  clear hr hlen
  generalize hW : w.alloc (.cells #[.int .u8 2, .int .u8 (fl : Int), .int .u64 (fd : Int), .int .u64 (ps : Int), .int .u64 (sz : Int), .string p, .string d, .string t] 24) = W1 at R0 hn0
  have HN0 := Lib.hid hn0
  have HR0 := Lib.hid R0
  obtain ⟨c0, c1, c2, c3, c4, c5, c6, c7, _⟩ := R0
  clear hn0
  dsimp only at c0 c1 c2 c3 c4 c5 c6 c7
  go_enter Try.func17, Try.ntmps17
  go_upto_region 2 with fail
  clear hW
  have hI := Ints.one .u8 W1 2 5
  rw [show W1.heap.size + 1 = (W1.alloc (.cells #[.int .u8 2] 5)).heap.size from by simp] at hI
  have HR3 := Lib.hid (HR0.out.nw (Nw.refl.alloc (.cells #[.int .u8 2] 5)))
  have HN3 := Lib.hid (HN0.out.alloc (.cells #[.int .u8 2] 5))
  clear c0 c1 c2 c3 c4 c5 c6 c7
  generalize W1.alloc (.cells #[.int .u8 2] 5) = W3 at hI HR3 HN3 ⊢
  generalize W1.heap.size = B at hI ⊢
  have HI := Lib.hid hI
  clear hI
  obtain ⟨c0, c1, c2, c3, c4, c5, c6, c7, _⟩ := HR3.out
  dsimp only at c0 c1 c2 c3 c4 c5 c6 c7
  go_wp2_with fail
  refine (number_any (some ⟨B, 0, none⟩) 1 1 [(2 : Int)] rfl (by omega) fd hfd W3 HI.out).mono ?_
  rintro e w4 ⟨v4, rfl, ho, hN4⟩
  clear c0 c1 c2 c3 c4 c5 c6 c7
  obtain ⟨c0, c1, c2, c3, c4, c5, c6, c7, _⟩ := HR3.out.nw hN4
  dsimp only at c0 c1 c2 c3 c4 c5 c6 c7
  go_wp2_with fail
  go_ret
  rw [HPL.out]
  exact OwnR.mono HN3.out ⟨_, rfl, ho, hN4⟩

set_option maxRecDepth 100000 in
set_option maxHeartbeats 4000000 in
theorem lby_3 (fl fd ps sz : Nat) (p d t : ByteArray) (hr : smallRq ⟨3, (fl : Int), (fd : Int), (ps : Int), (sz : Int), p, d, t⟩) (w : World) : Calls Try.prog 17 #[rqV ⟨3, (fl : Int), (fd : Int), (ps : Int), (sz : Int), p, d, t⟩] w (OwnR w (putL ⟨3, (fl : Int), (fd : Int), (ps : Int), (sz : Int), p, d, t⟩)) := by
  have R0 := RqAt.new w ⟨3, (fl : Int), (fd : Int), (ps : Int), (sz : Int), p, d, t⟩
  have hn0 : Nw w (w.alloc (.cells #[.int .u8 3, .int .u8 (fl : Int), .int .u64 (fd : Int), .int .u64 (ps : Int), .int .u64 (sz : Int), .string p, .string d, .string t] 24)) := Nw.refl.alloc _
  have HPL := Lib.hid (show putL ⟨3, (fl : Int), (fd : Int), (ps : Int), (sz : Int), p, d, t⟩ = [(3 : Int)] ++ numL fd ++ numL sz from by simp [putL, fdsOf, put1])
  have hfl : (fl : Int) ≤ 255 := hr.ok.flags.2
  have hfd : (fd : Int) ≤ 18446744073709551615 := hr.ok.fd.2
  have hps : (ps : Int) ≤ 18446744073709551615 := hr.ok.pos.2
  have hsz : (sz : Int) ≤ 18446744073709551615 := hr.ok.size.2
  have hsm : p.size + d.size + t.size ≤ 100000 := hr.sm
  have hfl2 : (fl : Int) ≤ 18446744073709551615 := by omega
  have hlen : ∀ n : Nat, (n : Int) ≤ 18446744073709551615 → (numL n).length ≤ 9 := fun n hn => by rw [numL_length]; have := nb_le (n := n) (by omega); omega
  have HLEN := Lib.hid hlen
  have HB := Lib.hid (And.intro hfl2 (And.intro hfd (And.intro hps hsz)))
  unfold rqV
  dsimp only at R0 ⊢
  clear hr hlen
  generalize hW : w.alloc (.cells #[.int .u8 3, .int .u8 (fl : Int), .int .u64 (fd : Int), .int .u64 (ps : Int), .int .u64 (sz : Int), .string p, .string d, .string t] 24) = W1 at R0 hn0
  have HN0 := Lib.hid hn0
  have HR0 := Lib.hid R0
  obtain ⟨c0, c1, c2, c3, c4, c5, c6, c7, _⟩ := R0
  clear hn0
  dsimp only at c0 c1 c2 c3 c4 c5 c6 c7
  go_enter Try.func17, Try.ntmps17
  go_upto_region 2 with fail
  clear hW
  have hI := Ints.one .u8 W1 3 5
  rw [show W1.heap.size + 1 = (W1.alloc (.cells #[.int .u8 3] 5)).heap.size from by simp] at hI
  have HR3 := Lib.hid (HR0.out.nw (Nw.refl.alloc (.cells #[.int .u8 3] 5)))
  have HN3 := Lib.hid (HN0.out.alloc (.cells #[.int .u8 3] 5))
  clear c0 c1 c2 c3 c4 c5 c6 c7
  generalize W1.alloc (.cells #[.int .u8 3] 5) = W3 at hI HR3 HN3 ⊢
  generalize W1.heap.size = B at hI ⊢
  have HI := Lib.hid hI
  clear hI
  obtain ⟨c0, c1, c2, c3, c4, c5, c6, c7, _⟩ := HR3.out
  dsimp only at c0 c1 c2 c3 c4 c5 c6 c7
  go_wp2_with fail
  refine (number_any (some ⟨B, 0, none⟩) 1 1 [(3 : Int)] rfl (by omega) fd hfd W3 HI.out).mono ?_
  intro e w4 h4
  obtain ⟨a4, cp4, n4, hn4, rfl, hI4, hN4, _⟩ := OwnR.app (zs := [(3 : Int)]) (ys := numL fd) Nw.refl h4
  have HX := Lib.hid (show Calls Try.prog 29 #[.slice a4 n4 cp4, .int .u64 (sz : Int)] w4 (OwnR w4 ([(3 : Int)] ++ numL fd ++ numL sz)) from number_any a4 n4 cp4 _ hn4.symm (by rw [hn4]; simp only [List.length_append, List.length_cons, List.length_nil]; have := HLEN.out fd HB.out.2.1; omega) sz HB.out.2.2.2 w4 hI4)
  clear c0 c1 c2 c3 c4 c5 c6 c7 h4 hI4 hn4
  obtain ⟨c0, c1, c2, c3, c4, c5, c6, c7, _⟩ := HR3.out.nw hN4
  dsimp only at c0 c1 c2 c3 c4 c5 c6 c7
  go_wp2_with fail
  refine HX.out.mono ?_
  rintro e w5 ⟨v5, rfl, ho5, hN5⟩
  go_wp2_with fail
  go_ret
  rw [HPL.out]
  exact OwnR.mono (HN3.out.trans hN4) ⟨_, rfl, ho5, hN5⟩

set_option maxRecDepth 100000 in
set_option maxHeartbeats 4000000 in
theorem lby_4 (fl fd ps sz : Nat) (p d t : ByteArray) (hr : smallRq ⟨4, (fl : Int), (fd : Int), (ps : Int), (sz : Int), p, d, t⟩) (w : World) : Calls Try.prog 17 #[rqV ⟨4, (fl : Int), (fd : Int), (ps : Int), (sz : Int), p, d, t⟩] w (OwnR w (putL ⟨4, (fl : Int), (fd : Int), (ps : Int), (sz : Int), p, d, t⟩)) := by
  have R0 := RqAt.new w ⟨4, (fl : Int), (fd : Int), (ps : Int), (sz : Int), p, d, t⟩
  have hn0 : Nw w (w.alloc (.cells #[.int .u8 4, .int .u8 (fl : Int), .int .u64 (fd : Int), .int .u64 (ps : Int), .int .u64 (sz : Int), .string p, .string d, .string t] 24)) := Nw.refl.alloc _
  have HPL := Lib.hid (show putL ⟨4, (fl : Int), (fd : Int), (ps : Int), (sz : Int), p, d, t⟩ = [(4 : Int)] ++ numL fd ++ txtB t from by simp [putL, fdsOf, put1])
  have hfl : (fl : Int) ≤ 255 := hr.ok.flags.2
  have hfd : (fd : Int) ≤ 18446744073709551615 := hr.ok.fd.2
  have hps : (ps : Int) ≤ 18446744073709551615 := hr.ok.pos.2
  have hsz : (sz : Int) ≤ 18446744073709551615 := hr.ok.size.2
  have hsm : p.size + d.size + t.size ≤ 100000 := hr.sm
  have hfl2 : (fl : Int) ≤ 18446744073709551615 := by omega
  have hlen : ∀ n : Nat, (n : Int) ≤ 18446744073709551615 → (numL n).length ≤ 9 := fun n hn => by rw [numL_length]; have := nb_le (n := n) (by omega); omega
  have HLEN := Lib.hid hlen
  have HB := Lib.hid (And.intro hfl2 (And.intro hfd (And.intro hps hsz)))
  unfold rqV
  dsimp only at R0 ⊢
  clear hr hlen
  generalize hW : w.alloc (.cells #[.int .u8 4, .int .u8 (fl : Int), .int .u64 (fd : Int), .int .u64 (ps : Int), .int .u64 (sz : Int), .string p, .string d, .string t] 24) = W1 at R0 hn0
  have HN0 := Lib.hid hn0
  have HR0 := Lib.hid R0
  obtain ⟨c0, c1, c2, c3, c4, c5, c6, c7, _⟩ := R0
  clear hn0
  dsimp only at c0 c1 c2 c3 c4 c5 c6 c7
  go_enter Try.func17, Try.ntmps17
  go_upto_region 2 with fail
  clear hW
  have hI := Ints.one .u8 W1 4 5
  rw [show W1.heap.size + 1 = (W1.alloc (.cells #[.int .u8 4] 5)).heap.size from by simp] at hI
  have HR3 := Lib.hid (HR0.out.nw (Nw.refl.alloc (.cells #[.int .u8 4] 5)))
  have HN3 := Lib.hid (HN0.out.alloc (.cells #[.int .u8 4] 5))
  clear c0 c1 c2 c3 c4 c5 c6 c7
  generalize W1.alloc (.cells #[.int .u8 4] 5) = W3 at hI HR3 HN3 ⊢
  generalize W1.heap.size = B at hI ⊢
  have HI := Lib.hid hI
  clear hI
  obtain ⟨c0, c1, c2, c3, c4, c5, c6, c7, _⟩ := HR3.out
  dsimp only at c0 c1 c2 c3 c4 c5 c6 c7
  go_wp2_with fail
  refine (number_any (some ⟨B, 0, none⟩) 1 1 [(4 : Int)] rfl (by omega) fd hfd W3 HI.out).mono ?_
  intro e w4 h4
  obtain ⟨a4, cp4, n4, hn4, rfl, hI4, hN4, _⟩ := OwnR.app (zs := [(4 : Int)]) (ys := numL fd) Nw.refl h4
  have HX := Lib.hid (show Calls Try.prog 28 #[.slice a4 n4 cp4, .string t] w4 (OwnR w4 ([(4 : Int)] ++ numL fd ++ txtB t)) from text_any a4 n4 cp4 _ t hn4.symm (by rw [hn4]; simp only [List.length_append, List.length_cons, List.length_nil]; have := HLEN.out fd HB.out.2.1; omega) w4 hI4)
  clear c0 c1 c2 c3 c4 c5 c6 c7 h4 hI4 hn4
  obtain ⟨c0, c1, c2, c3, c4, c5, c6, c7, _⟩ := HR3.out.nw hN4
  dsimp only at c0 c1 c2 c3 c4 c5 c6 c7
  go_wp2_with fail
  refine HX.out.mono ?_
  rintro e w5 ⟨v5, rfl, ho5, hN5⟩
  go_wp2_with fail
  go_ret
  rw [HPL.out]
  exact OwnR.mono (HN3.out.trans hN4) ⟨_, rfl, ho5, hN5⟩

set_option maxRecDepth 100000 in
set_option maxHeartbeats 4000000 in
theorem lby_5 (fl fd ps sz : Nat) (p d t : ByteArray) (hr : smallRq ⟨5, (fl : Int), (fd : Int), (ps : Int), (sz : Int), p, d, t⟩) (w : World) : Calls Try.prog 17 #[rqV ⟨5, (fl : Int), (fd : Int), (ps : Int), (sz : Int), p, d, t⟩] w (OwnR w (putL ⟨5, (fl : Int), (fd : Int), (ps : Int), (sz : Int), p, d, t⟩)) := by
  have R0 := RqAt.new w ⟨5, (fl : Int), (fd : Int), (ps : Int), (sz : Int), p, d, t⟩
  have hn0 : Nw w (w.alloc (.cells #[.int .u8 5, .int .u8 (fl : Int), .int .u64 (fd : Int), .int .u64 (ps : Int), .int .u64 (sz : Int), .string p, .string d, .string t] 24)) := Nw.refl.alloc _
  have HPL := Lib.hid (show putL ⟨5, (fl : Int), (fd : Int), (ps : Int), (sz : Int), p, d, t⟩ = [(5 : Int)] ++ numL fd ++ numL ps from by simp [putL, fdsOf, put1])
  have hfl : (fl : Int) ≤ 255 := hr.ok.flags.2
  have hfd : (fd : Int) ≤ 18446744073709551615 := hr.ok.fd.2
  have hps : (ps : Int) ≤ 18446744073709551615 := hr.ok.pos.2
  have hsz : (sz : Int) ≤ 18446744073709551615 := hr.ok.size.2
  have hsm : p.size + d.size + t.size ≤ 100000 := hr.sm
  have hfl2 : (fl : Int) ≤ 18446744073709551615 := by omega
  have hlen : ∀ n : Nat, (n : Int) ≤ 18446744073709551615 → (numL n).length ≤ 9 := fun n hn => by rw [numL_length]; have := nb_le (n := n) (by omega); omega
  have HLEN := Lib.hid hlen
  have HB := Lib.hid (And.intro hfl2 (And.intro hfd (And.intro hps hsz)))
  unfold rqV
  dsimp only at R0 ⊢
  clear hr hlen
  generalize hW : w.alloc (.cells #[.int .u8 5, .int .u8 (fl : Int), .int .u64 (fd : Int), .int .u64 (ps : Int), .int .u64 (sz : Int), .string p, .string d, .string t] 24) = W1 at R0 hn0
  have HN0 := Lib.hid hn0
  have HR0 := Lib.hid R0
  obtain ⟨c0, c1, c2, c3, c4, c5, c6, c7, _⟩ := R0
  clear hn0
  dsimp only at c0 c1 c2 c3 c4 c5 c6 c7
  go_enter Try.func17, Try.ntmps17
  go_upto_region 2 with fail
  clear hW
  have hI := Ints.one .u8 W1 5 5
  rw [show W1.heap.size + 1 = (W1.alloc (.cells #[.int .u8 5] 5)).heap.size from by simp] at hI
  have HR3 := Lib.hid (HR0.out.nw (Nw.refl.alloc (.cells #[.int .u8 5] 5)))
  have HN3 := Lib.hid (HN0.out.alloc (.cells #[.int .u8 5] 5))
  clear c0 c1 c2 c3 c4 c5 c6 c7
  generalize W1.alloc (.cells #[.int .u8 5] 5) = W3 at hI HR3 HN3 ⊢
  generalize W1.heap.size = B at hI ⊢
  have HI := Lib.hid hI
  clear hI
  obtain ⟨c0, c1, c2, c3, c4, c5, c6, c7, _⟩ := HR3.out
  dsimp only at c0 c1 c2 c3 c4 c5 c6 c7
  go_wp2_with fail
  refine (number_any (some ⟨B, 0, none⟩) 1 1 [(5 : Int)] rfl (by omega) fd hfd W3 HI.out).mono ?_
  intro e w4 h4
  obtain ⟨a4, cp4, n4, hn4, rfl, hI4, hN4, _⟩ := OwnR.app (zs := [(5 : Int)]) (ys := numL fd) Nw.refl h4
  have HX := Lib.hid (show Calls Try.prog 29 #[.slice a4 n4 cp4, .int .u64 (ps : Int)] w4 (OwnR w4 ([(5 : Int)] ++ numL fd ++ numL ps)) from number_any a4 n4 cp4 _ hn4.symm (by rw [hn4]; simp only [List.length_append, List.length_cons, List.length_nil]; have := HLEN.out fd HB.out.2.1; omega) ps HB.out.2.2.1 w4 hI4)
  clear c0 c1 c2 c3 c4 c5 c6 c7 h4 hI4 hn4
  obtain ⟨c0, c1, c2, c3, c4, c5, c6, c7, _⟩ := HR3.out.nw hN4
  dsimp only at c0 c1 c2 c3 c4 c5 c6 c7
  go_wp2_with fail
  refine HX.out.mono ?_
  rintro e w5 ⟨v5, rfl, ho5, hN5⟩
  go_wp2_with fail
  go_ret
  rw [HPL.out]
  exact OwnR.mono (HN3.out.trans hN4) ⟨_, rfl, ho5, hN5⟩

set_option maxRecDepth 100000 in
set_option maxHeartbeats 4000000 in
theorem lby_6 (fl fd ps sz : Nat) (p d t : ByteArray) (hr : smallRq ⟨6, (fl : Int), (fd : Int), (ps : Int), (sz : Int), p, d, t⟩) (w : World) : Calls Try.prog 17 #[rqV ⟨6, (fl : Int), (fd : Int), (ps : Int), (sz : Int), p, d, t⟩] w (OwnR w (putL ⟨6, (fl : Int), (fd : Int), (ps : Int), (sz : Int), p, d, t⟩)) := by
  have R0 := RqAt.new w ⟨6, (fl : Int), (fd : Int), (ps : Int), (sz : Int), p, d, t⟩
  have hn0 : Nw w (w.alloc (.cells #[.int .u8 6, .int .u8 (fl : Int), .int .u64 (fd : Int), .int .u64 (ps : Int), .int .u64 (sz : Int), .string p, .string d, .string t] 24)) := Nw.refl.alloc _
  have HPL := Lib.hid (show putL ⟨6, (fl : Int), (fd : Int), (ps : Int), (sz : Int), p, d, t⟩ = [(6 : Int)] ++ numL fd ++ numL ps from by simp [putL, fdsOf, put1])
  have hfl : (fl : Int) ≤ 255 := hr.ok.flags.2
  have hfd : (fd : Int) ≤ 18446744073709551615 := hr.ok.fd.2
  have hps : (ps : Int) ≤ 18446744073709551615 := hr.ok.pos.2
  have hsz : (sz : Int) ≤ 18446744073709551615 := hr.ok.size.2
  have hsm : p.size + d.size + t.size ≤ 100000 := hr.sm
  have hfl2 : (fl : Int) ≤ 18446744073709551615 := by omega
  have hlen : ∀ n : Nat, (n : Int) ≤ 18446744073709551615 → (numL n).length ≤ 9 := fun n hn => by rw [numL_length]; have := nb_le (n := n) (by omega); omega
  have HLEN := Lib.hid hlen
  have HB := Lib.hid (And.intro hfl2 (And.intro hfd (And.intro hps hsz)))
  unfold rqV
  dsimp only at R0 ⊢
  clear hr hlen
  generalize hW : w.alloc (.cells #[.int .u8 6, .int .u8 (fl : Int), .int .u64 (fd : Int), .int .u64 (ps : Int), .int .u64 (sz : Int), .string p, .string d, .string t] 24) = W1 at R0 hn0
  have HN0 := Lib.hid hn0
  have HR0 := Lib.hid R0
  obtain ⟨c0, c1, c2, c3, c4, c5, c6, c7, _⟩ := R0
  clear hn0
  dsimp only at c0 c1 c2 c3 c4 c5 c6 c7
  go_enter Try.func17, Try.ntmps17
  go_upto_region 2 with fail
  clear hW
  have hI := Ints.one .u8 W1 6 5
  rw [show W1.heap.size + 1 = (W1.alloc (.cells #[.int .u8 6] 5)).heap.size from by simp] at hI
  have HR3 := Lib.hid (HR0.out.nw (Nw.refl.alloc (.cells #[.int .u8 6] 5)))
  have HN3 := Lib.hid (HN0.out.alloc (.cells #[.int .u8 6] 5))
  clear c0 c1 c2 c3 c4 c5 c6 c7
  generalize W1.alloc (.cells #[.int .u8 6] 5) = W3 at hI HR3 HN3 ⊢
  generalize W1.heap.size = B at hI ⊢
  have HI := Lib.hid hI
  clear hI
  obtain ⟨c0, c1, c2, c3, c4, c5, c6, c7, _⟩ := HR3.out
  dsimp only at c0 c1 c2 c3 c4 c5 c6 c7
  go_wp2_with fail
  refine (number_any (some ⟨B, 0, none⟩) 1 1 [(6 : Int)] rfl (by omega) fd hfd W3 HI.out).mono ?_
  intro e w4 h4
  obtain ⟨a4, cp4, n4, hn4, rfl, hI4, hN4, _⟩ := OwnR.app (zs := [(6 : Int)]) (ys := numL fd) Nw.refl h4
  have HX := Lib.hid (show Calls Try.prog 29 #[.slice a4 n4 cp4, .int .u64 (ps : Int)] w4 (OwnR w4 ([(6 : Int)] ++ numL fd ++ numL ps)) from number_any a4 n4 cp4 _ hn4.symm (by rw [hn4]; simp only [List.length_append, List.length_cons, List.length_nil]; have := HLEN.out fd HB.out.2.1; omega) ps HB.out.2.2.1 w4 hI4)
  clear c0 c1 c2 c3 c4 c5 c6 c7 h4 hI4 hn4
  obtain ⟨c0, c1, c2, c3, c4, c5, c6, c7, _⟩ := HR3.out.nw hN4
  dsimp only at c0 c1 c2 c3 c4 c5 c6 c7
  go_wp2_with fail
  refine HX.out.mono ?_
  rintro e w5 ⟨v5, rfl, ho5, hN5⟩
  go_wp2_with fail
  go_ret
  rw [HPL.out]
  exact OwnR.mono (HN3.out.trans hN4) ⟨_, rfl, ho5, hN5⟩

set_option maxRecDepth 100000 in
set_option maxHeartbeats 4000000 in
theorem lby_7 (fl fd ps sz : Nat) (p d t : ByteArray) (hr : smallRq ⟨7, (fl : Int), (fd : Int), (ps : Int), (sz : Int), p, d, t⟩) (w : World) : Calls Try.prog 17 #[rqV ⟨7, (fl : Int), (fd : Int), (ps : Int), (sz : Int), p, d, t⟩] w (OwnR w (putL ⟨7, (fl : Int), (fd : Int), (ps : Int), (sz : Int), p, d, t⟩)) := by
  have R0 := RqAt.new w ⟨7, (fl : Int), (fd : Int), (ps : Int), (sz : Int), p, d, t⟩
  have hn0 : Nw w (w.alloc (.cells #[.int .u8 7, .int .u8 (fl : Int), .int .u64 (fd : Int), .int .u64 (ps : Int), .int .u64 (sz : Int), .string p, .string d, .string t] 24)) := Nw.refl.alloc _
  have HPL := Lib.hid (show putL ⟨7, (fl : Int), (fd : Int), (ps : Int), (sz : Int), p, d, t⟩ = [(7 : Int)] ++ txtB p from by simp [putL, fdsOf, put1])
  have hfl : (fl : Int) ≤ 255 := hr.ok.flags.2
  have hfd : (fd : Int) ≤ 18446744073709551615 := hr.ok.fd.2
  have hps : (ps : Int) ≤ 18446744073709551615 := hr.ok.pos.2
  have hsz : (sz : Int) ≤ 18446744073709551615 := hr.ok.size.2
  have hsm : p.size + d.size + t.size ≤ 100000 := hr.sm
  have hfl2 : (fl : Int) ≤ 18446744073709551615 := by omega
  have hlen : ∀ n : Nat, (n : Int) ≤ 18446744073709551615 → (numL n).length ≤ 9 := fun n hn => by rw [numL_length]; have := nb_le (n := n) (by omega); omega
  have HLEN := Lib.hid hlen
  have HB := Lib.hid (And.intro hfl2 (And.intro hfd (And.intro hps hsz)))
  unfold rqV
  dsimp only at R0 ⊢
  clear hr hlen
  generalize hW : w.alloc (.cells #[.int .u8 7, .int .u8 (fl : Int), .int .u64 (fd : Int), .int .u64 (ps : Int), .int .u64 (sz : Int), .string p, .string d, .string t] 24) = W1 at R0 hn0
  have HN0 := Lib.hid hn0
  have HR0 := Lib.hid R0
  obtain ⟨c0, c1, c2, c3, c4, c5, c6, c7, _⟩ := R0
  clear hn0
  dsimp only at c0 c1 c2 c3 c4 c5 c6 c7
  go_enter Try.func17, Try.ntmps17
  go_upto_region 2 with fail
  clear hW
  have hI := Ints.one .u8 W1 7 5
  rw [show W1.heap.size + 1 = (W1.alloc (.cells #[.int .u8 7] 5)).heap.size from by simp] at hI
  have HR3 := Lib.hid (HR0.out.nw (Nw.refl.alloc (.cells #[.int .u8 7] 5)))
  have HN3 := Lib.hid (HN0.out.alloc (.cells #[.int .u8 7] 5))
  clear c0 c1 c2 c3 c4 c5 c6 c7
  generalize W1.alloc (.cells #[.int .u8 7] 5) = W3 at hI HR3 HN3 ⊢
  generalize W1.heap.size = B at hI ⊢
  have HI := Lib.hid hI
  clear hI
  obtain ⟨c0, c1, c2, c3, c4, c5, c6, c7, _⟩ := HR3.out
  dsimp only at c0 c1 c2 c3 c4 c5 c6 c7
  go_wp2_with fail
  refine (text_any (some ⟨B, 0, none⟩) 1 1 [(7 : Int)] p rfl (by omega) W3 HI.out).mono ?_
  rintro e w4 ⟨v4, rfl, ho, hN4⟩
  clear c0 c1 c2 c3 c4 c5 c6 c7
  obtain ⟨c0, c1, c2, c3, c4, c5, c6, c7, _⟩ := HR3.out.nw hN4
  dsimp only at c0 c1 c2 c3 c4 c5 c6 c7
  go_wp2_with fail
  go_ret
  rw [HPL.out]
  exact OwnR.mono HN3.out ⟨_, rfl, ho, hN4⟩

set_option maxRecDepth 100000 in
set_option maxHeartbeats 4000000 in
theorem lby_8 (fl fd ps sz : Nat) (p d t : ByteArray) (hr : smallRq ⟨8, (fl : Int), (fd : Int), (ps : Int), (sz : Int), p, d, t⟩) (w : World) : Calls Try.prog 17 #[rqV ⟨8, (fl : Int), (fd : Int), (ps : Int), (sz : Int), p, d, t⟩] w (OwnR w (putL ⟨8, (fl : Int), (fd : Int), (ps : Int), (sz : Int), p, d, t⟩)) := by
  have R0 := RqAt.new w ⟨8, (fl : Int), (fd : Int), (ps : Int), (sz : Int), p, d, t⟩
  have hn0 : Nw w (w.alloc (.cells #[.int .u8 8, .int .u8 (fl : Int), .int .u64 (fd : Int), .int .u64 (ps : Int), .int .u64 (sz : Int), .string p, .string d, .string t] 24)) := Nw.refl.alloc _
  have HPL := Lib.hid (show putL ⟨8, (fl : Int), (fd : Int), (ps : Int), (sz : Int), p, d, t⟩ = [(8 : Int)] ++ txtB p from by simp [putL, fdsOf, put1])
  have hfl : (fl : Int) ≤ 255 := hr.ok.flags.2
  have hfd : (fd : Int) ≤ 18446744073709551615 := hr.ok.fd.2
  have hps : (ps : Int) ≤ 18446744073709551615 := hr.ok.pos.2
  have hsz : (sz : Int) ≤ 18446744073709551615 := hr.ok.size.2
  have hsm : p.size + d.size + t.size ≤ 100000 := hr.sm
  have hfl2 : (fl : Int) ≤ 18446744073709551615 := by omega
  have hlen : ∀ n : Nat, (n : Int) ≤ 18446744073709551615 → (numL n).length ≤ 9 := fun n hn => by rw [numL_length]; have := nb_le (n := n) (by omega); omega
  have HLEN := Lib.hid hlen
  have HB := Lib.hid (And.intro hfl2 (And.intro hfd (And.intro hps hsz)))
  unfold rqV
  dsimp only at R0 ⊢
  clear hr hlen
  generalize hW : w.alloc (.cells #[.int .u8 8, .int .u8 (fl : Int), .int .u64 (fd : Int), .int .u64 (ps : Int), .int .u64 (sz : Int), .string p, .string d, .string t] 24) = W1 at R0 hn0
  have HN0 := Lib.hid hn0
  have HR0 := Lib.hid R0
  obtain ⟨c0, c1, c2, c3, c4, c5, c6, c7, _⟩ := R0
  clear hn0
  dsimp only at c0 c1 c2 c3 c4 c5 c6 c7
  go_enter Try.func17, Try.ntmps17
  go_upto_region 2 with fail
  clear hW
  have hI := Ints.one .u8 W1 8 5
  rw [show W1.heap.size + 1 = (W1.alloc (.cells #[.int .u8 8] 5)).heap.size from by simp] at hI
  have HR3 := Lib.hid (HR0.out.nw (Nw.refl.alloc (.cells #[.int .u8 8] 5)))
  have HN3 := Lib.hid (HN0.out.alloc (.cells #[.int .u8 8] 5))
  clear c0 c1 c2 c3 c4 c5 c6 c7
  generalize W1.alloc (.cells #[.int .u8 8] 5) = W3 at hI HR3 HN3 ⊢
  generalize W1.heap.size = B at hI ⊢
  have HI := Lib.hid hI
  clear hI
  obtain ⟨c0, c1, c2, c3, c4, c5, c6, c7, _⟩ := HR3.out
  dsimp only at c0 c1 c2 c3 c4 c5 c6 c7
  go_wp2_with fail
  refine (text_any (some ⟨B, 0, none⟩) 1 1 [(8 : Int)] p rfl (by omega) W3 HI.out).mono ?_
  rintro e w4 ⟨v4, rfl, ho, hN4⟩
  clear c0 c1 c2 c3 c4 c5 c6 c7
  obtain ⟨c0, c1, c2, c3, c4, c5, c6, c7, _⟩ := HR3.out.nw hN4
  dsimp only at c0 c1 c2 c3 c4 c5 c6 c7
  go_wp2_with fail
  go_ret
  rw [HPL.out]
  exact OwnR.mono HN3.out ⟨_, rfl, ho, hN4⟩

set_option maxRecDepth 100000 in
set_option maxHeartbeats 4000000 in
theorem lby_9 (fl fd ps sz : Nat) (p d t : ByteArray) (hr : smallRq ⟨9, (fl : Int), (fd : Int), (ps : Int), (sz : Int), p, d, t⟩) (w : World) : Calls Try.prog 17 #[rqV ⟨9, (fl : Int), (fd : Int), (ps : Int), (sz : Int), p, d, t⟩] w (OwnR w (putL ⟨9, (fl : Int), (fd : Int), (ps : Int), (sz : Int), p, d, t⟩)) := by
  have R0 := RqAt.new w ⟨9, (fl : Int), (fd : Int), (ps : Int), (sz : Int), p, d, t⟩
  have hn0 : Nw w (w.alloc (.cells #[.int .u8 9, .int .u8 (fl : Int), .int .u64 (fd : Int), .int .u64 (ps : Int), .int .u64 (sz : Int), .string p, .string d, .string t] 24)) := Nw.refl.alloc _
  have HPL := Lib.hid (show putL ⟨9, (fl : Int), (fd : Int), (ps : Int), (sz : Int), p, d, t⟩ = [(9 : Int)] ++ txtB p from by simp [putL, fdsOf, put1])
  have hfl : (fl : Int) ≤ 255 := hr.ok.flags.2
  have hfd : (fd : Int) ≤ 18446744073709551615 := hr.ok.fd.2
  have hps : (ps : Int) ≤ 18446744073709551615 := hr.ok.pos.2
  have hsz : (sz : Int) ≤ 18446744073709551615 := hr.ok.size.2
  have hsm : p.size + d.size + t.size ≤ 100000 := hr.sm
  have hfl2 : (fl : Int) ≤ 18446744073709551615 := by omega
  have hlen : ∀ n : Nat, (n : Int) ≤ 18446744073709551615 → (numL n).length ≤ 9 := fun n hn => by rw [numL_length]; have := nb_le (n := n) (by omega); omega
  have HLEN := Lib.hid hlen
  have HB := Lib.hid (And.intro hfl2 (And.intro hfd (And.intro hps hsz)))
  unfold rqV
  dsimp only at R0 ⊢
  clear hr hlen
  generalize hW : w.alloc (.cells #[.int .u8 9, .int .u8 (fl : Int), .int .u64 (fd : Int), .int .u64 (ps : Int), .int .u64 (sz : Int), .string p, .string d, .string t] 24) = W1 at R0 hn0
  have HN0 := Lib.hid hn0
  have HR0 := Lib.hid R0
  obtain ⟨c0, c1, c2, c3, c4, c5, c6, c7, _⟩ := R0
  clear hn0
  dsimp only at c0 c1 c2 c3 c4 c5 c6 c7
  go_enter Try.func17, Try.ntmps17
  go_upto_region 2 with fail
  clear hW
  have hI := Ints.one .u8 W1 9 5
  rw [show W1.heap.size + 1 = (W1.alloc (.cells #[.int .u8 9] 5)).heap.size from by simp] at hI
  have HR3 := Lib.hid (HR0.out.nw (Nw.refl.alloc (.cells #[.int .u8 9] 5)))
  have HN3 := Lib.hid (HN0.out.alloc (.cells #[.int .u8 9] 5))
  clear c0 c1 c2 c3 c4 c5 c6 c7
  generalize W1.alloc (.cells #[.int .u8 9] 5) = W3 at hI HR3 HN3 ⊢
  generalize W1.heap.size = B at hI ⊢
  have HI := Lib.hid hI
  clear hI
  obtain ⟨c0, c1, c2, c3, c4, c5, c6, c7, _⟩ := HR3.out
  dsimp only at c0 c1 c2 c3 c4 c5 c6 c7
  go_wp2_with fail
  refine (text_any (some ⟨B, 0, none⟩) 1 1 [(9 : Int)] p rfl (by omega) W3 HI.out).mono ?_
  rintro e w4 ⟨v4, rfl, ho, hN4⟩
  clear c0 c1 c2 c3 c4 c5 c6 c7
  obtain ⟨c0, c1, c2, c3, c4, c5, c6, c7, _⟩ := HR3.out.nw hN4
  dsimp only at c0 c1 c2 c3 c4 c5 c6 c7
  go_wp2_with fail
  go_ret
  rw [HPL.out]
  exact OwnR.mono HN3.out ⟨_, rfl, ho, hN4⟩

set_option maxRecDepth 100000 in
set_option maxHeartbeats 4000000 in
theorem lby_10 (fl fd ps sz : Nat) (p d t : ByteArray) (hr : smallRq ⟨10, (fl : Int), (fd : Int), (ps : Int), (sz : Int), p, d, t⟩) (w : World) : Calls Try.prog 17 #[rqV ⟨10, (fl : Int), (fd : Int), (ps : Int), (sz : Int), p, d, t⟩] w (OwnR w (putL ⟨10, (fl : Int), (fd : Int), (ps : Int), (sz : Int), p, d, t⟩)) := by
  have R0 := RqAt.new w ⟨10, (fl : Int), (fd : Int), (ps : Int), (sz : Int), p, d, t⟩
  have hn0 : Nw w (w.alloc (.cells #[.int .u8 10, .int .u8 (fl : Int), .int .u64 (fd : Int), .int .u64 (ps : Int), .int .u64 (sz : Int), .string p, .string d, .string t] 24)) := Nw.refl.alloc _
  have HPL := Lib.hid (show putL ⟨10, (fl : Int), (fd : Int), (ps : Int), (sz : Int), p, d, t⟩ = [(10 : Int)] ++ txtB p ++ txtB d from by simp [putL, fdsOf, put1])
  have hfl : (fl : Int) ≤ 255 := hr.ok.flags.2
  have hfd : (fd : Int) ≤ 18446744073709551615 := hr.ok.fd.2
  have hps : (ps : Int) ≤ 18446744073709551615 := hr.ok.pos.2
  have hsz : (sz : Int) ≤ 18446744073709551615 := hr.ok.size.2
  have hsm : p.size + d.size + t.size ≤ 100000 := hr.sm
  have hfl2 : (fl : Int) ≤ 18446744073709551615 := by omega
  have hlen : ∀ n : Nat, (n : Int) ≤ 18446744073709551615 → (numL n).length ≤ 9 := fun n hn => by rw [numL_length]; have := nb_le (n := n) (by omega); omega
  have HLEN := Lib.hid hlen
  have HB := Lib.hid (And.intro hfl2 (And.intro hfd (And.intro hps hsz)))
  unfold rqV
  dsimp only at R0 ⊢
  clear hr hlen
  generalize hW : w.alloc (.cells #[.int .u8 10, .int .u8 (fl : Int), .int .u64 (fd : Int), .int .u64 (ps : Int), .int .u64 (sz : Int), .string p, .string d, .string t] 24) = W1 at R0 hn0
  have HN0 := Lib.hid hn0
  have HR0 := Lib.hid R0
  obtain ⟨c0, c1, c2, c3, c4, c5, c6, c7, _⟩ := R0
  clear hn0
  dsimp only at c0 c1 c2 c3 c4 c5 c6 c7
  go_enter Try.func17, Try.ntmps17
  go_upto_region 2 with fail
  clear hW
  have hI := Ints.one .u8 W1 10 5
  rw [show W1.heap.size + 1 = (W1.alloc (.cells #[.int .u8 10] 5)).heap.size from by simp] at hI
  have HR3 := Lib.hid (HR0.out.nw (Nw.refl.alloc (.cells #[.int .u8 10] 5)))
  have HN3 := Lib.hid (HN0.out.alloc (.cells #[.int .u8 10] 5))
  clear c0 c1 c2 c3 c4 c5 c6 c7
  generalize W1.alloc (.cells #[.int .u8 10] 5) = W3 at hI HR3 HN3 ⊢
  generalize W1.heap.size = B at hI ⊢
  have HI := Lib.hid hI
  clear hI
  obtain ⟨c0, c1, c2, c3, c4, c5, c6, c7, _⟩ := HR3.out
  dsimp only at c0 c1 c2 c3 c4 c5 c6 c7
  go_wp2_with fail
  refine (text_any (some ⟨B, 0, none⟩) 1 1 [(10 : Int)] p rfl (by omega) W3 HI.out).mono ?_
  intro e w4 h4
  obtain ⟨a4, cp4, n4, hn4, rfl, hI4, hN4, _⟩ := OwnR.app (zs := [(10 : Int)]) (ys := txtB p) Nw.refl h4
  have HX := Lib.hid (show Calls Try.prog 28 #[.slice a4 n4 cp4, .string d] w4 (OwnR w4 ([(10 : Int)] ++ txtB p ++ txtB d)) from text_any a4 n4 cp4 _ d hn4.symm (by rw [hn4]; simp only [List.length_append, List.length_cons, List.length_nil, txtB, strB_length]; have := HLEN.out p.size (by omega); omega) w4 hI4)
  clear c0 c1 c2 c3 c4 c5 c6 c7 h4 hI4 hn4
  obtain ⟨c0, c1, c2, c3, c4, c5, c6, c7, _⟩ := HR3.out.nw hN4
  dsimp only at c0 c1 c2 c3 c4 c5 c6 c7
  go_wp2_with fail
  refine HX.out.mono ?_
  rintro e w5 ⟨v5, rfl, ho5, hN5⟩
  go_wp2_with fail
  go_ret
  rw [HPL.out]
  exact OwnR.mono (HN3.out.trans hN4) ⟨_, rfl, ho5, hN5⟩

set_option maxRecDepth 100000 in
set_option maxHeartbeats 4000000 in
theorem lby_11 (fl fd ps sz : Nat) (p d t : ByteArray) (hr : smallRq ⟨11, (fl : Int), (fd : Int), (ps : Int), (sz : Int), p, d, t⟩) (w : World) : Calls Try.prog 17 #[rqV ⟨11, (fl : Int), (fd : Int), (ps : Int), (sz : Int), p, d, t⟩] w (OwnR w (putL ⟨11, (fl : Int), (fd : Int), (ps : Int), (sz : Int), p, d, t⟩)) := by
  have R0 := RqAt.new w ⟨11, (fl : Int), (fd : Int), (ps : Int), (sz : Int), p, d, t⟩
  have hn0 : Nw w (w.alloc (.cells #[.int .u8 11, .int .u8 (fl : Int), .int .u64 (fd : Int), .int .u64 (ps : Int), .int .u64 (sz : Int), .string p, .string d, .string t] 24)) := Nw.refl.alloc _
  have HPL := Lib.hid (show putL ⟨11, (fl : Int), (fd : Int), (ps : Int), (sz : Int), p, d, t⟩ = [(11 : Int)] ++ txtB p from by simp [putL, fdsOf, put1])
  have hfl : (fl : Int) ≤ 255 := hr.ok.flags.2
  have hfd : (fd : Int) ≤ 18446744073709551615 := hr.ok.fd.2
  have hps : (ps : Int) ≤ 18446744073709551615 := hr.ok.pos.2
  have hsz : (sz : Int) ≤ 18446744073709551615 := hr.ok.size.2
  have hsm : p.size + d.size + t.size ≤ 100000 := hr.sm
  have hfl2 : (fl : Int) ≤ 18446744073709551615 := by omega
  have hlen : ∀ n : Nat, (n : Int) ≤ 18446744073709551615 → (numL n).length ≤ 9 := fun n hn => by rw [numL_length]; have := nb_le (n := n) (by omega); omega
  have HLEN := Lib.hid hlen
  have HB := Lib.hid (And.intro hfl2 (And.intro hfd (And.intro hps hsz)))
  unfold rqV
  dsimp only at R0 ⊢
  clear hr hlen
  generalize hW : w.alloc (.cells #[.int .u8 11, .int .u8 (fl : Int), .int .u64 (fd : Int), .int .u64 (ps : Int), .int .u64 (sz : Int), .string p, .string d, .string t] 24) = W1 at R0 hn0
  have HN0 := Lib.hid hn0
  have HR0 := Lib.hid R0
  obtain ⟨c0, c1, c2, c3, c4, c5, c6, c7, _⟩ := R0
  clear hn0
  dsimp only at c0 c1 c2 c3 c4 c5 c6 c7
  go_enter Try.func17, Try.ntmps17
  go_upto_region 2 with fail
  clear hW
  have hI := Ints.one .u8 W1 11 5
  rw [show W1.heap.size + 1 = (W1.alloc (.cells #[.int .u8 11] 5)).heap.size from by simp] at hI
  have HR3 := Lib.hid (HR0.out.nw (Nw.refl.alloc (.cells #[.int .u8 11] 5)))
  have HN3 := Lib.hid (HN0.out.alloc (.cells #[.int .u8 11] 5))
  clear c0 c1 c2 c3 c4 c5 c6 c7
  generalize W1.alloc (.cells #[.int .u8 11] 5) = W3 at hI HR3 HN3 ⊢
  generalize W1.heap.size = B at hI ⊢
  have HI := Lib.hid hI
  clear hI
  obtain ⟨c0, c1, c2, c3, c4, c5, c6, c7, _⟩ := HR3.out
  dsimp only at c0 c1 c2 c3 c4 c5 c6 c7
  go_wp2_with fail
  refine (text_any (some ⟨B, 0, none⟩) 1 1 [(11 : Int)] p rfl (by omega) W3 HI.out).mono ?_
  rintro e w4 ⟨v4, rfl, ho, hN4⟩
  clear c0 c1 c2 c3 c4 c5 c6 c7
  obtain ⟨c0, c1, c2, c3, c4, c5, c6, c7, _⟩ := HR3.out.nw hN4
  dsimp only at c0 c1 c2 c3 c4 c5 c6 c7
  go_wp2_with fail
  go_ret
  rw [HPL.out]
  exact OwnR.mono HN3.out ⟨_, rfl, ho, hN4⟩

set_option maxRecDepth 100000 in
set_option maxHeartbeats 4000000 in
theorem lby_12 (fl fd ps sz : Nat) (p d t : ByteArray) (hr : smallRq ⟨12, (fl : Int), (fd : Int), (ps : Int), (sz : Int), p, d, t⟩) (w : World) : Calls Try.prog 17 #[rqV ⟨12, (fl : Int), (fd : Int), (ps : Int), (sz : Int), p, d, t⟩] w (OwnR w (putL ⟨12, (fl : Int), (fd : Int), (ps : Int), (sz : Int), p, d, t⟩)) := by
  have R0 := RqAt.new w ⟨12, (fl : Int), (fd : Int), (ps : Int), (sz : Int), p, d, t⟩
  have hn0 : Nw w (w.alloc (.cells #[.int .u8 12, .int .u8 (fl : Int), .int .u64 (fd : Int), .int .u64 (ps : Int), .int .u64 (sz : Int), .string p, .string d, .string t] 24)) := Nw.refl.alloc _
  have HPL := Lib.hid (show putL ⟨12, (fl : Int), (fd : Int), (ps : Int), (sz : Int), p, d, t⟩ = [(12 : Int)] ++ txtB p ++ txtB d from by simp [putL, fdsOf, put1])
  have hfl : (fl : Int) ≤ 255 := hr.ok.flags.2
  have hfd : (fd : Int) ≤ 18446744073709551615 := hr.ok.fd.2
  have hps : (ps : Int) ≤ 18446744073709551615 := hr.ok.pos.2
  have hsz : (sz : Int) ≤ 18446744073709551615 := hr.ok.size.2
  have hsm : p.size + d.size + t.size ≤ 100000 := hr.sm
  have hfl2 : (fl : Int) ≤ 18446744073709551615 := by omega
  have hlen : ∀ n : Nat, (n : Int) ≤ 18446744073709551615 → (numL n).length ≤ 9 := fun n hn => by rw [numL_length]; have := nb_le (n := n) (by omega); omega
  have HLEN := Lib.hid hlen
  have HB := Lib.hid (And.intro hfl2 (And.intro hfd (And.intro hps hsz)))
  unfold rqV
  dsimp only at R0 ⊢
  clear hr hlen
  generalize hW : w.alloc (.cells #[.int .u8 12, .int .u8 (fl : Int), .int .u64 (fd : Int), .int .u64 (ps : Int), .int .u64 (sz : Int), .string p, .string d, .string t] 24) = W1 at R0 hn0
  have HN0 := Lib.hid hn0
  have HR0 := Lib.hid R0
  obtain ⟨c0, c1, c2, c3, c4, c5, c6, c7, _⟩ := R0
  clear hn0
  dsimp only at c0 c1 c2 c3 c4 c5 c6 c7
  go_enter Try.func17, Try.ntmps17
  go_upto_region 2 with fail
  clear hW
  have hI := Ints.one .u8 W1 12 5
  rw [show W1.heap.size + 1 = (W1.alloc (.cells #[.int .u8 12] 5)).heap.size from by simp] at hI
  have HR3 := Lib.hid (HR0.out.nw (Nw.refl.alloc (.cells #[.int .u8 12] 5)))
  have HN3 := Lib.hid (HN0.out.alloc (.cells #[.int .u8 12] 5))
  clear c0 c1 c2 c3 c4 c5 c6 c7
  generalize W1.alloc (.cells #[.int .u8 12] 5) = W3 at hI HR3 HN3 ⊢
  generalize W1.heap.size = B at hI ⊢
  have HI := Lib.hid hI
  clear hI
  obtain ⟨c0, c1, c2, c3, c4, c5, c6, c7, _⟩ := HR3.out
  dsimp only at c0 c1 c2 c3 c4 c5 c6 c7
  go_wp2_with fail
  refine (text_any (some ⟨B, 0, none⟩) 1 1 [(12 : Int)] p rfl (by omega) W3 HI.out).mono ?_
  intro e w4 h4
  obtain ⟨a4, cp4, n4, hn4, rfl, hI4, hN4, _⟩ := OwnR.app (zs := [(12 : Int)]) (ys := txtB p) Nw.refl h4
  have HX := Lib.hid (show Calls Try.prog 28 #[.slice a4 n4 cp4, .string d] w4 (OwnR w4 ([(12 : Int)] ++ txtB p ++ txtB d)) from text_any a4 n4 cp4 _ d hn4.symm (by rw [hn4]; simp only [List.length_append, List.length_cons, List.length_nil, txtB, strB_length]; have := HLEN.out p.size (by omega); omega) w4 hI4)
  clear c0 c1 c2 c3 c4 c5 c6 c7 h4 hI4 hn4
  obtain ⟨c0, c1, c2, c3, c4, c5, c6, c7, _⟩ := HR3.out.nw hN4
  dsimp only at c0 c1 c2 c3 c4 c5 c6 c7
  go_wp2_with fail
  refine HX.out.mono ?_
  rintro e w5 ⟨v5, rfl, ho5, hN5⟩
  go_wp2_with fail
  go_ret
  rw [HPL.out]
  exact OwnR.mono (HN3.out.trans hN4) ⟨_, rfl, ho5, hN5⟩

set_option maxRecDepth 100000 in
set_option maxHeartbeats 4000000 in
theorem lby_13 (fl fd ps sz : Nat) (p d t : ByteArray) (hr : smallRq ⟨13, (fl : Int), (fd : Int), (ps : Int), (sz : Int), p, d, t⟩) (w : World) : Calls Try.prog 17 #[rqV ⟨13, (fl : Int), (fd : Int), (ps : Int), (sz : Int), p, d, t⟩] w (OwnR w (putL ⟨13, (fl : Int), (fd : Int), (ps : Int), (sz : Int), p, d, t⟩)) := by
  have R0 := RqAt.new w ⟨13, (fl : Int), (fd : Int), (ps : Int), (sz : Int), p, d, t⟩
  have hn0 : Nw w (w.alloc (.cells #[.int .u8 13, .int .u8 (fl : Int), .int .u64 (fd : Int), .int .u64 (ps : Int), .int .u64 (sz : Int), .string p, .string d, .string t] 24)) := Nw.refl.alloc _
  have HPL := Lib.hid (show putL ⟨13, (fl : Int), (fd : Int), (ps : Int), (sz : Int), p, d, t⟩ = [(13 : Int)] ++ txtB p ++ numL ps from by simp [putL, fdsOf, put1])
  have hfl : (fl : Int) ≤ 255 := hr.ok.flags.2
  have hfd : (fd : Int) ≤ 18446744073709551615 := hr.ok.fd.2
  have hps : (ps : Int) ≤ 18446744073709551615 := hr.ok.pos.2
  have hsz : (sz : Int) ≤ 18446744073709551615 := hr.ok.size.2
  have hsm : p.size + d.size + t.size ≤ 100000 := hr.sm
  have hfl2 : (fl : Int) ≤ 18446744073709551615 := by omega
  have hlen : ∀ n : Nat, (n : Int) ≤ 18446744073709551615 → (numL n).length ≤ 9 := fun n hn => by rw [numL_length]; have := nb_le (n := n) (by omega); omega
  have HLEN := Lib.hid hlen
  have HB := Lib.hid (And.intro hfl2 (And.intro hfd (And.intro hps hsz)))
  unfold rqV
  dsimp only at R0 ⊢
  clear hr hlen
  generalize hW : w.alloc (.cells #[.int .u8 13, .int .u8 (fl : Int), .int .u64 (fd : Int), .int .u64 (ps : Int), .int .u64 (sz : Int), .string p, .string d, .string t] 24) = W1 at R0 hn0
  have HN0 := Lib.hid hn0
  have HR0 := Lib.hid R0
  obtain ⟨c0, c1, c2, c3, c4, c5, c6, c7, _⟩ := R0
  clear hn0
  dsimp only at c0 c1 c2 c3 c4 c5 c6 c7
  go_enter Try.func17, Try.ntmps17
  go_upto_region 2 with fail
  clear hW
  have hI := Ints.one .u8 W1 13 5
  rw [show W1.heap.size + 1 = (W1.alloc (.cells #[.int .u8 13] 5)).heap.size from by simp] at hI
  have HR3 := Lib.hid (HR0.out.nw (Nw.refl.alloc (.cells #[.int .u8 13] 5)))
  have HN3 := Lib.hid (HN0.out.alloc (.cells #[.int .u8 13] 5))
  clear c0 c1 c2 c3 c4 c5 c6 c7
  generalize W1.alloc (.cells #[.int .u8 13] 5) = W3 at hI HR3 HN3 ⊢
  generalize W1.heap.size = B at hI ⊢
  have HI := Lib.hid hI
  clear hI
  obtain ⟨c0, c1, c2, c3, c4, c5, c6, c7, _⟩ := HR3.out
  dsimp only at c0 c1 c2 c3 c4 c5 c6 c7
  go_wp2_with fail
  refine (text_any (some ⟨B, 0, none⟩) 1 1 [(13 : Int)] p rfl (by omega) W3 HI.out).mono ?_
  intro e w4 h4
  obtain ⟨a4, cp4, n4, hn4, rfl, hI4, hN4, _⟩ := OwnR.app (zs := [(13 : Int)]) (ys := txtB p) Nw.refl h4
  have HX := Lib.hid (show Calls Try.prog 29 #[.slice a4 n4 cp4, .int .u64 (ps : Int)] w4 (OwnR w4 ([(13 : Int)] ++ txtB p ++ numL ps)) from number_any a4 n4 cp4 _ hn4.symm (by rw [hn4]; simp only [List.length_append, List.length_cons, List.length_nil, txtB, strB_length]; have := HLEN.out p.size (by omega); omega) ps HB.out.2.2.1 w4 hI4)
  clear c0 c1 c2 c3 c4 c5 c6 c7 h4 hI4 hn4
  obtain ⟨c0, c1, c2, c3, c4, c5, c6, c7, _⟩ := HR3.out.nw hN4
  dsimp only at c0 c1 c2 c3 c4 c5 c6 c7
  go_wp2_with fail
  refine HX.out.mono ?_
  rintro e w5 ⟨v5, rfl, ho5, hN5⟩
  go_wp2_with fail
  go_ret
  rw [HPL.out]
  exact OwnR.mono (HN3.out.trans hN4) ⟨_, rfl, ho5, hN5⟩

theorem lby_any (r : Rq) (hr : smallRq r) (hk : known r.kind = true) (w : World) : Calls Try.prog 17 #[rqV r] w (OwnR w (putL r)) := by
  obtain ⟨k, fl, fd, ps, sz, p, d, t⟩ := r
  obtain ⟨fl, rfl⟩ := Int.eq_ofNat_of_zero_le hr.ok.flags.1
  obtain ⟨fd, rfl⟩ := Int.eq_ofNat_of_zero_le hr.ok.fd.1
  obtain ⟨ps, rfl⟩ := Int.eq_ofNat_of_zero_le hr.ok.pos.1
  obtain ⟨sz, rfl⟩ := Int.eq_ofNat_of_zero_le hr.ok.size.1
  rcases known_cases hk with rfl | rfl | rfl | rfl | rfl | rfl | rfl | rfl | rfl | rfl | rfl | rfl | rfl
  · exact lby_1 fl fd ps sz p d t hr w
  · exact lby_2 fl fd ps sz p d t hr w
  · exact lby_3 fl fd ps sz p d t hr w
  · exact lby_4 fl fd ps sz p d t hr w
  · exact lby_5 fl fd ps sz p d t hr w
  · exact lby_6 fl fd ps sz p d t hr w
  · exact lby_7 fl fd ps sz p d t hr w
  · exact lby_8 fl fd ps sz p d t hr w
  · exact lby_9 fl fd ps sz p d t hr w
  · exact lby_10 fl fd ps sz p d t hr w
  · exact lby_11 fl fd ps sz p d t hr w
  · exact lby_12 fl fd ps sz p d t hr w
  · exact lby_13 fl fd ps sz p d t hr w

end Go.Proofs.Ytphcdndohdnolaa
