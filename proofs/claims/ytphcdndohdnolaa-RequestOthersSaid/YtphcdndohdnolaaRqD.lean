/-
  THE DOCUMENT's Put (grommetref20).
-/
import Derived.Deep.DeepCutAuto
import Derived.Test.YtphcdndohdnolaaRqC
namespace Go.Proofs.Ytphcdndohdnolaa
open Go.RowKit Go.Shelf
set_option linter.unusedVariables false

/-- What stands behind bytes of one's own. -/
theorem OwnR.app {A w : World} {zs ys : List Int} {e : Ending} {w' : World} (hN : Nw A w) (h : OwnR w (zs ++ ys) e w') : ∃ a c n, n = (zs ++ ys).length ∧ e = .returned (.slice a n c) ∧ Ints w'.heap.size .u8 w' a (zs ++ ys) ∧ Nw w w' ∧ w'.ownsRow A.heap.size 5 1 (.slice a n c) n ((zs ++ ys).map (.int .u8)) := by
  obtain ⟨v, rfl, ho, hn⟩ := h
  obtain ⟨a, c, rfl, _, hI⟩ := Ints.of_owns ho
  exact ⟨a, c, _, rfl, rfl, hI, hn, own_mono hN.b.size ho⟩
theorem rput_no (r : Rq) (hm : mayR r = false) (w : World) : Calls Try.prog 16 #[rqV r] w (OwnR w []) := by
  have R0 := RqAt.new w r
  have hn0 : Nw w (w.alloc (.cells #[.int .u8 r.kind, .int .u8 r.flags, .int .u64 r.fd, .int .u64 r.pos, .int .u64 r.size, .string r.path, .string r.dst, .string r.data] 24)) := Nw.refl.alloc _
  have HMY := Lib.hid (fun W => rmay_any r W)
  rw [hm] at HMY
  unfold rqV at HMY ⊢
  clear hm
  generalize hW : w.alloc (.cells #[.int .u8 r.kind, .int .u8 r.flags, .int .u64 r.fd, .int .u64 r.pos, .int .u64 r.size, .string r.path, .string r.dst, .string r.data] 24) = W1 at R0 hn0
  have HN0 := Lib.hid hn0
  obtain ⟨c0, c1, c2, c3, c4, c5, c6, c7, _⟩ := R0
  clear hn0
  go_enter Try.func16, Try.ntmps16
  go_wp2_with fail
  clear hW
  refine (HMY.out _).mono ?_
  rintro e w2 ⟨rfl, hN2⟩
  go_wp2_with fail
  go_ret
  exact ⟨_, rfl, World.ownsRow_nil _ _ _ _, HN0.out.trans hN2⟩

set_option maxRecDepth 100000 in
set_option maxHeartbeats 4000000 in
theorem rput_1 (fl fd ps sz : Nat) (p d t : ByteArray) (hr : smallRq ⟨1, (fl : Int), (fd : Int), (ps : Int), (sz : Int), p, d, t⟩) (hm : mayR ⟨1, (fl : Int), (fd : Int), (ps : Int), (sz : Int), p, d, t⟩ = true) (w : World) : Calls Try.prog 16 #[rqV ⟨1, (fl : Int), (fd : Int), (ps : Int), (sz : Int), p, d, t⟩] w (OwnR w (putL ⟨1, (fl : Int), (fd : Int), (ps : Int), (sz : Int), p, d, t⟩)) := by
  have R0 := RqAt.new w ⟨1, (fl : Int), (fd : Int), (ps : Int), (sz : Int), p, d, t⟩
  have hn0 : Nw w (w.alloc (.cells #[.int .u8 1, .int .u8 (fl : Int), .int .u64 (fd : Int), .int .u64 (ps : Int), .int .u64 (sz : Int), .string p, .string d, .string t] 24)) := Nw.refl.alloc _
  have HMY := Lib.hid (fun W => rmay_any ⟨1, (fl : Int), (fd : Int), (ps : Int), (sz : Int), p, d, t⟩ W)
  have HPL := Lib.hid (show putL ⟨1, (fl : Int), (fd : Int), (ps : Int), (sz : Int), p, d, t⟩ = [(1 : Int)] ++ txtB p ++ numL fl from by simp [putL, fdsOf, put1])
  have hfl : (fl : Int) ≤ 255 := hr.ok.flags.2
  have hfd : (fd : Int) ≤ 18446744073709551615 := hr.ok.fd.2
  have hps : (ps : Int) ≤ 18446744073709551615 := hr.ok.pos.2
  have hsz : (sz : Int) ≤ 18446744073709551615 := hr.ok.size.2
  have hsm : p.size + d.size + t.size ≤ 100000 := hr.sm
  have hfl2 : (fl : Int) ≤ 18446744073709551615 := by omega
  have hlen : ∀ n : Nat, (n : Int) ≤ 18446744073709551615 → (numL n).length ≤ 9 := fun n hn => by rw [numL_length]; have := nb_le (n := n) (by omega); omega
  have HLEN := Lib.hid hlen
  have HB := Lib.hid (And.intro hfl2 (And.intro hfd (And.intro hps hsz)))
  rw [hm] at HMY
  unfold rqV at HMY ⊢
  dsimp only at HMY R0 ⊢
  clear hm hr hlen
  generalize hW : w.alloc (.cells #[.int .u8 1, .int .u8 (fl : Int), .int .u64 (fd : Int), .int .u64 (ps : Int), .int .u64 (sz : Int), .string p, .string d, .string t] 24) = W1 at R0 hn0
  have HN0 := Lib.hid hn0
  have HR0 := Lib.hid R0
  obtain ⟨c0, c1, c2, c3, c4, c5, c6, c7, _⟩ := R0
  clear hn0
  go_enter Try.func16, Try.ntmps16
  go_wp2_with fail
  clear hW
  refine (HMY.out _).mono ?_
  rintro e w2 ⟨rfl, hN2⟩
  have R2 := HR0.out.nw hN2
  have HN2 := Lib.hid (HN0.out.trans hN2)
  have HR2 := Lib.hid R2
  clear c0 c1 c2 c3 c4 c5 c6 c7 hN2
  obtain ⟨c0, c1, c2, c3, c4, c5, c6, c7, _⟩ := R2
  dsimp only at c0 c1 c2 c3 c4 c5 c6 c7
  go_upto_region 4 with fail
  have hI := Ints.one .u8 w2 1 5
  rw [show w2.heap.size + 1 = (w2.alloc (.cells #[.int .u8 1] 5)).heap.size from by simp] at hI
  have HR3 := Lib.hid (HR2.out.nw (Nw.refl.alloc (.cells #[.int .u8 1] 5)))
  have HN3 := Lib.hid (HN2.out.alloc (.cells #[.int .u8 1] 5))
  clear c0 c1 c2 c3 c4 c5 c6 c7
  generalize w2.alloc (.cells #[.int .u8 1] 5) = W3 at hI HR3 HN3 ⊢
  generalize w2.heap.size = B at hI ⊢
  have HI := Lib.hid hI
  clear hI
  obtain ⟨c0, c1, c2, c3, c4, c5, c6, c7, _⟩ := HR3.out
  dsimp only at c0 c1 c2 c3 c4 c5 c6 c7
  have hwr : IntKind.u64.wrap (fl : Int) = (fl : Int) := by
    have : IntKind.u64.wrap (fl : Int) = (fl : Int) % 18446744073709551616 := by simp [IntKind.wrap, IntKind.bits, IntKind.signed]
    omega
  have HC1 := Lib.hid (reftext_any (some ⟨B, 0, none⟩) 1 1 [(1 : Int)] p rfl (by omega) W3.drew (HI.out.below (Below.refl _ _).drew))
  have HX := Lib.hid (fun (X : World) (a : Option Addr) (n c : Nat) (hN : Nw W3.drew X) (hn : n = ([(1 : Int)] ++ txtB p).length) (hI : Ints X.heap.size .u8 X a ([(1 : Int)] ++ txtB p)) => show Calls Try.prog 26 #[.slice a n c, .int .u64 (fl : Int)] X (OwnR X ([(1 : Int)] ++ txtB p ++ numL fl)) from by
    have := HLEN.out p.size (by omega)
    refine refnum_any a n c _ hn.symm (by rw [hn]; simp only [List.length_append, List.length_cons, List.length_nil, txtB, strB_length]; omega) fl HB.out.1 X hI)
  go_wp2_with fail
  go_region_held3 (fun w' => w'.cell? ⟨w.heap.size, 5, none⟩ = some (.string p) ∧ w'.cell? ⟨w.heap.size, 1, none⟩ = some (.int .u8 (fl : Int)))
    (first | (exact ⟨c5, c1⟩) | (exact ⟨(hN4.b.cell (p := ⟨w.heap.size, 5, none⟩) (cell_lt c5).1).trans c5, (hN4.b.cell (p := ⟨w.heap.size, 1, none⟩) (cell_lt c1).1).trans c1⟩) | (exact ⟨(hN6.b.cell (p := ⟨w.heap.size, 5, none⟩) (cell_lt c5).1).trans c5, (hN6.b.cell (p := ⟨w.heap.size, 1, none⟩) (cell_lt c1).1).trans c1⟩))
    ((first
      | ((with_reducible refine (HX.out _ _ _ _ hN4 HL4.out HI4.out).mono ?_); rintro e w5 ⟨v5, rfl, ho5, hN5⟩; have hN6 := hN4.trans hN5)
      | ((with_reducible refine HC1.out.mono ?_); intro e w4 h4; obtain ⟨a4, cp4, n4, hn4, rfl, hI4, hN4, ho4⟩ := OwnR.app Nw.refl h4; have HO4 := Lib.hid ho4; have HI4 := Lib.hid hI4; have HL4 := Lib.hid hn4; clear h4 ho4 hI4 hn4)))
  go_wp2_with fail
  go_ret
  rw [HPL.out]
  exact OwnR.mono (HN3.out.drew.trans hN4) ⟨_, rfl, ho5, hN5⟩

set_option maxRecDepth 100000 in
set_option maxHeartbeats 4000000 in
theorem rput_2 (fl fd ps sz : Nat) (p d t : ByteArray) (hr : smallRq ⟨2, (fl : Int), (fd : Int), (ps : Int), (sz : Int), p, d, t⟩) (hm : mayR ⟨2, (fl : Int), (fd : Int), (ps : Int), (sz : Int), p, d, t⟩ = true) (w : World) : Calls Try.prog 16 #[rqV ⟨2, (fl : Int), (fd : Int), (ps : Int), (sz : Int), p, d, t⟩] w (OwnR w (putL ⟨2, (fl : Int), (fd : Int), (ps : Int), (sz : Int), p, d, t⟩)) := by
  have R0 := RqAt.new w ⟨2, (fl : Int), (fd : Int), (ps : Int), (sz : Int), p, d, t⟩
  have hn0 : Nw w (w.alloc (.cells #[.int .u8 2, .int .u8 (fl : Int), .int .u64 (fd : Int), .int .u64 (ps : Int), .int .u64 (sz : Int), .string p, .string d, .string t] 24)) := Nw.refl.alloc _
  have HMY := Lib.hid (fun W => rmay_any ⟨2, (fl : Int), (fd : Int), (ps : Int), (sz : Int), p, d, t⟩ W)
  have HPL := Lib.hid (show putL ⟨2, (fl : Int), (fd : Int), (ps : Int), (sz : Int), p, d, t⟩ = [(2 : Int)] ++ numL fd from by simp [putL, fdsOf, put1])
  have hfl : (fl : Int) ≤ 255 := hr.ok.flags.2
  have hfd : (fd : Int) ≤ 18446744073709551615 := hr.ok.fd.2
  have hps : (ps : Int) ≤ 18446744073709551615 := hr.ok.pos.2
  have hsz : (sz : Int) ≤ 18446744073709551615 := hr.ok.size.2
  have hsm : p.size + d.size + t.size ≤ 100000 := hr.sm
  have hfl2 : (fl : Int) ≤ 18446744073709551615 := by omega
  have hlen : ∀ n : Nat, (n : Int) ≤ 18446744073709551615 → (numL n).length ≤ 9 := fun n hn => by rw [numL_length]; have := nb_le (n := n) (by omega); omega
  have HLEN := Lib.hid hlen
  have HB := Lib.hid (And.intro hfl2 (And.intro hfd (And.intro hps hsz)))
  rw [hm] at HMY
  unfold rqV at HMY ⊢
  dsimp only at HMY R0 ⊢
  clear hm hr hlen
  generalize hW : w.alloc (.cells #[.int .u8 2, .int .u8 (fl : Int), .int .u64 (fd : Int), .int .u64 (ps : Int), .int .u64 (sz : Int), .string p, .string d, .string t] 24) = W1 at R0 hn0
  have HN0 := Lib.hid hn0
  have HR0 := Lib.hid R0
  obtain ⟨c0, c1, c2, c3, c4, c5, c6, c7, _⟩ := R0
  clear hn0
  go_enter Try.func16, Try.ntmps16
  go_wp2_with fail
  clear hW
  refine (HMY.out _).mono ?_
  rintro e w2 ⟨rfl, hN2⟩
  have R2 := HR0.out.nw hN2
  have HN2 := Lib.hid (HN0.out.trans hN2)
  have HR2 := Lib.hid R2
  clear c0 c1 c2 c3 c4 c5 c6 c7 hN2
  obtain ⟨c0, c1, c2, c3, c4, c5, c6, c7, _⟩ := R2
  dsimp only at c0 c1 c2 c3 c4 c5 c6 c7
  go_upto_region 4 with fail
  have hI := Ints.one .u8 w2 2 5
  rw [show w2.heap.size + 1 = (w2.alloc (.cells #[.int .u8 2] 5)).heap.size from by simp] at hI
  have HR3 := Lib.hid (HR2.out.nw (Nw.refl.alloc (.cells #[.int .u8 2] 5)))
  have HN3 := Lib.hid (HN2.out.alloc (.cells #[.int .u8 2] 5))
  clear c0 c1 c2 c3 c4 c5 c6 c7
  generalize w2.alloc (.cells #[.int .u8 2] 5) = W3 at hI HR3 HN3 ⊢
  generalize w2.heap.size = B at hI ⊢
  have HI := Lib.hid hI
  clear hI
  obtain ⟨c0, c1, c2, c3, c4, c5, c6, c7, _⟩ := HR3.out
  dsimp only at c0 c1 c2 c3 c4 c5 c6 c7
  go_wp2_with fail
  refine (refnum_any (some ⟨B, 0, none⟩) 1 1 [(2 : Int)] rfl (by omega) fd hfd W3 HI.out).mono ?_
  rintro e w4 ⟨v4, rfl, ho, hN4⟩
  go_wp2_with fail
  go_ret
  rw [HPL.out]
  exact OwnR.mono HN3.out ⟨_, rfl, ho, hN4⟩

set_option maxRecDepth 100000 in
set_option maxHeartbeats 4000000 in
theorem rput_3 (fl fd ps sz : Nat) (p d t : ByteArray) (hr : smallRq ⟨3, (fl : Int), (fd : Int), (ps : Int), (sz : Int), p, d, t⟩) (hm : mayR ⟨3, (fl : Int), (fd : Int), (ps : Int), (sz : Int), p, d, t⟩ = true) (w : World) : Calls Try.prog 16 #[rqV ⟨3, (fl : Int), (fd : Int), (ps : Int), (sz : Int), p, d, t⟩] w (OwnR w (putL ⟨3, (fl : Int), (fd : Int), (ps : Int), (sz : Int), p, d, t⟩)) := by
  have R0 := RqAt.new w ⟨3, (fl : Int), (fd : Int), (ps : Int), (sz : Int), p, d, t⟩
  have hn0 : Nw w (w.alloc (.cells #[.int .u8 3, .int .u8 (fl : Int), .int .u64 (fd : Int), .int .u64 (ps : Int), .int .u64 (sz : Int), .string p, .string d, .string t] 24)) := Nw.refl.alloc _
  have HMY := Lib.hid (fun W => rmay_any ⟨3, (fl : Int), (fd : Int), (ps : Int), (sz : Int), p, d, t⟩ W)
  have HPL := Lib.hid (show putL ⟨3, (fl : Int), (fd : Int), (ps : Int), (sz : Int), p, d, t⟩ = [(3 : Int)] ++ numL fd ++ numL sz from by simp [putL, fdsOf, put1])
  have hfl : (fl : Int) ≤ 255 := hr.ok.flags.2
  have hfd : (fd : Int) ≤ 18446744073709551615 := hr.ok.fd.2
  have hps : (ps : Int) ≤ 18446744073709551615 := hr.ok.pos.2
  have hsz : (sz : Int) ≤ 18446744073709551615 := hr.ok.size.2
  have hsm : p.size + d.size + t.size ≤ 100000 := hr.sm
  have hfl2 : (fl : Int) ≤ 18446744073709551615 := by omega
  have hlen : ∀ n : Nat, (n : Int) ≤ 18446744073709551615 → (numL n).length ≤ 9 := fun n hn => by rw [numL_length]; have := nb_le (n := n) (by omega); omega
  have HLEN := Lib.hid hlen
  have HB := Lib.hid (And.intro hfl2 (And.intro hfd (And.intro hps hsz)))
  rw [hm] at HMY
  unfold rqV at HMY ⊢
  dsimp only at HMY R0 ⊢
  clear hm hr hlen
  generalize hW : w.alloc (.cells #[.int .u8 3, .int .u8 (fl : Int), .int .u64 (fd : Int), .int .u64 (ps : Int), .int .u64 (sz : Int), .string p, .string d, .string t] 24) = W1 at R0 hn0
  have HN0 := Lib.hid hn0
  have HR0 := Lib.hid R0
  obtain ⟨c0, c1, c2, c3, c4, c5, c6, c7, _⟩ := R0
  clear hn0
  go_enter Try.func16, Try.ntmps16
  go_wp2_with fail
  clear hW
  refine (HMY.out _).mono ?_
  rintro e w2 ⟨rfl, hN2⟩
  have R2 := HR0.out.nw hN2
  have HN2 := Lib.hid (HN0.out.trans hN2)
  have HR2 := Lib.hid R2
  clear c0 c1 c2 c3 c4 c5 c6 c7 hN2
  obtain ⟨c0, c1, c2, c3, c4, c5, c6, c7, _⟩ := R2
  dsimp only at c0 c1 c2 c3 c4 c5 c6 c7
  go_upto_region 4 with fail
  have hI := Ints.one .u8 w2 3 5
  rw [show w2.heap.size + 1 = (w2.alloc (.cells #[.int .u8 3] 5)).heap.size from by simp] at hI
  have HR3 := Lib.hid (HR2.out.nw (Nw.refl.alloc (.cells #[.int .u8 3] 5)))
  have HN3 := Lib.hid (HN2.out.alloc (.cells #[.int .u8 3] 5))
  clear c0 c1 c2 c3 c4 c5 c6 c7
  generalize w2.alloc (.cells #[.int .u8 3] 5) = W3 at hI HR3 HN3 ⊢
  generalize w2.heap.size = B at hI ⊢
  have HI := Lib.hid hI
  clear hI
  obtain ⟨c0, c1, c2, c3, c4, c5, c6, c7, _⟩ := HR3.out
  dsimp only at c0 c1 c2 c3 c4 c5 c6 c7
  have HC1 := Lib.hid (refnum_any (some ⟨B, 0, none⟩) 1 1 [(3 : Int)] rfl (by omega) fd hfd W3.drew (HI.out.below (Below.refl _ _).drew))
  have HX := Lib.hid (fun (X : World) (a : Option Addr) (n c : Nat) (hN : Nw W3.drew X) (hn : n = ([(3 : Int)] ++ numL fd).length) (hI : Ints X.heap.size .u8 X a ([(3 : Int)] ++ numL fd)) => show Calls Try.prog 26 #[.slice a n c, .int .u64 (sz : Int)] X (OwnR X ([(3 : Int)] ++ numL fd ++ numL sz)) from by
    have := HLEN.out p.size (by omega)
    refine refnum_any a n c _ hn.symm (by rw [hn]; simp only [List.length_append, List.length_cons, List.length_nil]; have := HLEN.out fd HB.out.2.1; omega) sz HB.out.2.2.2 X hI)
  go_wp2_with fail
  go_region_held3 (fun w' => w'.cell? ⟨w.heap.size, 2, none⟩ = some (.int .u64 (fd : Int)) ∧ w'.cell? ⟨w.heap.size, 4, none⟩ = some (.int .u64 (sz : Int)))
    (first | (exact ⟨c2, c4⟩) | (exact ⟨(hN4.b.cell (p := ⟨w.heap.size, 2, none⟩) (cell_lt c2).1).trans c2, (hN4.b.cell (p := ⟨w.heap.size, 4, none⟩) (cell_lt c4).1).trans c4⟩) | (exact ⟨(hN6.b.cell (p := ⟨w.heap.size, 2, none⟩) (cell_lt c2).1).trans c2, (hN6.b.cell (p := ⟨w.heap.size, 4, none⟩) (cell_lt c4).1).trans c4⟩))
    ((first
      | ((with_reducible refine (HX.out _ _ _ _ hN4 HL4.out HI4.out).mono ?_); rintro e w5 ⟨v5, rfl, ho5, hN5⟩; have hN6 := hN4.trans hN5)
      | ((with_reducible refine HC1.out.mono ?_); intro e w4 h4; obtain ⟨a4, cp4, n4, hn4, rfl, hI4, hN4, ho4⟩ := OwnR.app Nw.refl h4; have HO4 := Lib.hid ho4; have HI4 := Lib.hid hI4; have HL4 := Lib.hid hn4; clear h4 ho4 hI4 hn4)))
  go_wp2_with fail
  go_ret
  rw [HPL.out]
  exact OwnR.mono (HN3.out.drew.trans hN4) ⟨_, rfl, ho5, hN5⟩

set_option maxRecDepth 100000 in
set_option maxHeartbeats 4000000 in
theorem rput_4 (fl fd ps sz : Nat) (p d t : ByteArray) (hr : smallRq ⟨4, (fl : Int), (fd : Int), (ps : Int), (sz : Int), p, d, t⟩) (hm : mayR ⟨4, (fl : Int), (fd : Int), (ps : Int), (sz : Int), p, d, t⟩ = true) (w : World) : Calls Try.prog 16 #[rqV ⟨4, (fl : Int), (fd : Int), (ps : Int), (sz : Int), p, d, t⟩] w (OwnR w (putL ⟨4, (fl : Int), (fd : Int), (ps : Int), (sz : Int), p, d, t⟩)) := by
  have R0 := RqAt.new w ⟨4, (fl : Int), (fd : Int), (ps : Int), (sz : Int), p, d, t⟩
  have hn0 : Nw w (w.alloc (.cells #[.int .u8 4, .int .u8 (fl : Int), .int .u64 (fd : Int), .int .u64 (ps : Int), .int .u64 (sz : Int), .string p, .string d, .string t] 24)) := Nw.refl.alloc _
  have HMY := Lib.hid (fun W => rmay_any ⟨4, (fl : Int), (fd : Int), (ps : Int), (sz : Int), p, d, t⟩ W)
  have HPL := Lib.hid (show putL ⟨4, (fl : Int), (fd : Int), (ps : Int), (sz : Int), p, d, t⟩ = [(4 : Int)] ++ numL fd ++ txtB t from by simp [putL, fdsOf, put1])
  have hfl : (fl : Int) ≤ 255 := hr.ok.flags.2
  have hfd : (fd : Int) ≤ 18446744073709551615 := hr.ok.fd.2
  have hps : (ps : Int) ≤ 18446744073709551615 := hr.ok.pos.2
  have hsz : (sz : Int) ≤ 18446744073709551615 := hr.ok.size.2
  have hsm : p.size + d.size + t.size ≤ 100000 := hr.sm
  have hfl2 : (fl : Int) ≤ 18446744073709551615 := by omega
  have hlen : ∀ n : Nat, (n : Int) ≤ 18446744073709551615 → (numL n).length ≤ 9 := fun n hn => by rw [numL_length]; have := nb_le (n := n) (by omega); omega
  have HLEN := Lib.hid hlen
  have HB := Lib.hid (And.intro hfl2 (And.intro hfd (And.intro hps hsz)))
  rw [hm] at HMY
  unfold rqV at HMY ⊢
  dsimp only at HMY R0 ⊢
  clear hm hr hlen
  generalize hW : w.alloc (.cells #[.int .u8 4, .int .u8 (fl : Int), .int .u64 (fd : Int), .int .u64 (ps : Int), .int .u64 (sz : Int), .string p, .string d, .string t] 24) = W1 at R0 hn0
  have HN0 := Lib.hid hn0
  have HR0 := Lib.hid R0
  obtain ⟨c0, c1, c2, c3, c4, c5, c6, c7, _⟩ := R0
  clear hn0
  go_enter Try.func16, Try.ntmps16
  go_wp2_with fail
  clear hW
  refine (HMY.out _).mono ?_
  rintro e w2 ⟨rfl, hN2⟩
  have R2 := HR0.out.nw hN2
  have HN2 := Lib.hid (HN0.out.trans hN2)
  have HR2 := Lib.hid R2
  clear c0 c1 c2 c3 c4 c5 c6 c7 hN2
  obtain ⟨c0, c1, c2, c3, c4, c5, c6, c7, _⟩ := R2
  dsimp only at c0 c1 c2 c3 c4 c5 c6 c7
  go_upto_region 4 with fail
  have hI := Ints.one .u8 w2 4 5
  rw [show w2.heap.size + 1 = (w2.alloc (.cells #[.int .u8 4] 5)).heap.size from by simp] at hI
  have HR3 := Lib.hid (HR2.out.nw (Nw.refl.alloc (.cells #[.int .u8 4] 5)))
  have HN3 := Lib.hid (HN2.out.alloc (.cells #[.int .u8 4] 5))
  clear c0 c1 c2 c3 c4 c5 c6 c7
  generalize w2.alloc (.cells #[.int .u8 4] 5) = W3 at hI HR3 HN3 ⊢
  generalize w2.heap.size = B at hI ⊢
  have HI := Lib.hid hI
  clear hI
  obtain ⟨c0, c1, c2, c3, c4, c5, c6, c7, _⟩ := HR3.out
  dsimp only at c0 c1 c2 c3 c4 c5 c6 c7
  have HC1 := Lib.hid (refnum_any (some ⟨B, 0, none⟩) 1 1 [(4 : Int)] rfl (by omega) fd hfd W3.drew (HI.out.below (Below.refl _ _).drew))
  have HX := Lib.hid (fun (X : World) (a : Option Addr) (n c : Nat) (hN : Nw W3.drew X) (hn : n = ([(4 : Int)] ++ numL fd).length) (hI : Ints X.heap.size .u8 X a ([(4 : Int)] ++ numL fd)) => show Calls Try.prog 27 #[.slice a n c, .string t] X (OwnR X ([(4 : Int)] ++ numL fd ++ txtB t)) from by
    have := HLEN.out p.size (by omega)
    refine reftext_any a n c _ t hn.symm (by rw [hn]; simp only [List.length_append, List.length_cons, List.length_nil]; have := HLEN.out fd HB.out.2.1; omega) X hI)
  go_wp2_with fail
  go_region_held3 (fun w' => w'.cell? ⟨w.heap.size, 2, none⟩ = some (.int .u64 (fd : Int)) ∧ w'.cell? ⟨w.heap.size, 7, none⟩ = some (.string t))
    (first | (exact ⟨c2, c7⟩) | (exact ⟨(hN4.b.cell (p := ⟨w.heap.size, 2, none⟩) (cell_lt c2).1).trans c2, (hN4.b.cell (p := ⟨w.heap.size, 7, none⟩) (cell_lt c7).1).trans c7⟩) | (exact ⟨(hN6.b.cell (p := ⟨w.heap.size, 2, none⟩) (cell_lt c2).1).trans c2, (hN6.b.cell (p := ⟨w.heap.size, 7, none⟩) (cell_lt c7).1).trans c7⟩))
    ((first
      | ((with_reducible refine (HX.out _ _ _ _ hN4 HL4.out HI4.out).mono ?_); rintro e w5 ⟨v5, rfl, ho5, hN5⟩; have hN6 := hN4.trans hN5)
      | ((with_reducible refine HC1.out.mono ?_); intro e w4 h4; obtain ⟨a4, cp4, n4, hn4, rfl, hI4, hN4, ho4⟩ := OwnR.app Nw.refl h4; have HO4 := Lib.hid ho4; have HI4 := Lib.hid hI4; have HL4 := Lib.hid hn4; clear h4 ho4 hI4 hn4)))
  go_wp2_with fail
  go_ret
  rw [HPL.out]
  exact OwnR.mono (HN3.out.drew.trans hN4) ⟨_, rfl, ho5, hN5⟩

set_option maxRecDepth 100000 in
set_option maxHeartbeats 4000000 in
theorem rput_5 (fl fd ps sz : Nat) (p d t : ByteArray) (hr : smallRq ⟨5, (fl : Int), (fd : Int), (ps : Int), (sz : Int), p, d, t⟩) (hm : mayR ⟨5, (fl : Int), (fd : Int), (ps : Int), (sz : Int), p, d, t⟩ = true) (w : World) : Calls Try.prog 16 #[rqV ⟨5, (fl : Int), (fd : Int), (ps : Int), (sz : Int), p, d, t⟩] w (OwnR w (putL ⟨5, (fl : Int), (fd : Int), (ps : Int), (sz : Int), p, d, t⟩)) := by
  have R0 := RqAt.new w ⟨5, (fl : Int), (fd : Int), (ps : Int), (sz : Int), p, d, t⟩
  have hn0 : Nw w (w.alloc (.cells #[.int .u8 5, .int .u8 (fl : Int), .int .u64 (fd : Int), .int .u64 (ps : Int), .int .u64 (sz : Int), .string p, .string d, .string t] 24)) := Nw.refl.alloc _
  have HMY := Lib.hid (fun W => rmay_any ⟨5, (fl : Int), (fd : Int), (ps : Int), (sz : Int), p, d, t⟩ W)
  have HPL := Lib.hid (show putL ⟨5, (fl : Int), (fd : Int), (ps : Int), (sz : Int), p, d, t⟩ = [(5 : Int)] ++ numL fd ++ numL ps from by simp [putL, fdsOf, put1])
  have hfl : (fl : Int) ≤ 255 := hr.ok.flags.2
  have hfd : (fd : Int) ≤ 18446744073709551615 := hr.ok.fd.2
  have hps : (ps : Int) ≤ 18446744073709551615 := hr.ok.pos.2
  have hsz : (sz : Int) ≤ 18446744073709551615 := hr.ok.size.2
  have hsm : p.size + d.size + t.size ≤ 100000 := hr.sm
  have hfl2 : (fl : Int) ≤ 18446744073709551615 := by omega
  have hlen : ∀ n : Nat, (n : Int) ≤ 18446744073709551615 → (numL n).length ≤ 9 := fun n hn => by rw [numL_length]; have := nb_le (n := n) (by omega); omega
  have HLEN := Lib.hid hlen
  have HB := Lib.hid (And.intro hfl2 (And.intro hfd (And.intro hps hsz)))
  rw [hm] at HMY
  unfold rqV at HMY ⊢
  dsimp only at HMY R0 ⊢
  clear hm hr hlen
  generalize hW : w.alloc (.cells #[.int .u8 5, .int .u8 (fl : Int), .int .u64 (fd : Int), .int .u64 (ps : Int), .int .u64 (sz : Int), .string p, .string d, .string t] 24) = W1 at R0 hn0
  have HN0 := Lib.hid hn0
  have HR0 := Lib.hid R0
  obtain ⟨c0, c1, c2, c3, c4, c5, c6, c7, _⟩ := R0
  clear hn0
  go_enter Try.func16, Try.ntmps16
  go_wp2_with fail
  clear hW
  refine (HMY.out _).mono ?_
  rintro e w2 ⟨rfl, hN2⟩
  have R2 := HR0.out.nw hN2
  have HN2 := Lib.hid (HN0.out.trans hN2)
  have HR2 := Lib.hid R2
  clear c0 c1 c2 c3 c4 c5 c6 c7 hN2
  obtain ⟨c0, c1, c2, c3, c4, c5, c6, c7, _⟩ := R2
  dsimp only at c0 c1 c2 c3 c4 c5 c6 c7
  go_upto_region 4 with fail
  have hI := Ints.one .u8 w2 5 5
  rw [show w2.heap.size + 1 = (w2.alloc (.cells #[.int .u8 5] 5)).heap.size from by simp] at hI
  have HR3 := Lib.hid (HR2.out.nw (Nw.refl.alloc (.cells #[.int .u8 5] 5)))
  have HN3 := Lib.hid (HN2.out.alloc (.cells #[.int .u8 5] 5))
  clear c0 c1 c2 c3 c4 c5 c6 c7
  generalize w2.alloc (.cells #[.int .u8 5] 5) = W3 at hI HR3 HN3 ⊢
  generalize w2.heap.size = B at hI ⊢
  have HI := Lib.hid hI
  clear hI
  obtain ⟨c0, c1, c2, c3, c4, c5, c6, c7, _⟩ := HR3.out
  dsimp only at c0 c1 c2 c3 c4 c5 c6 c7
  have HC1 := Lib.hid (refnum_any (some ⟨B, 0, none⟩) 1 1 [(5 : Int)] rfl (by omega) fd hfd W3.drew (HI.out.below (Below.refl _ _).drew))
  have HX := Lib.hid (fun (X : World) (a : Option Addr) (n c : Nat) (hN : Nw W3.drew X) (hn : n = ([(5 : Int)] ++ numL fd).length) (hI : Ints X.heap.size .u8 X a ([(5 : Int)] ++ numL fd)) => show Calls Try.prog 26 #[.slice a n c, .int .u64 (ps : Int)] X (OwnR X ([(5 : Int)] ++ numL fd ++ numL ps)) from by
    have := HLEN.out p.size (by omega)
    refine refnum_any a n c _ hn.symm (by rw [hn]; simp only [List.length_append, List.length_cons, List.length_nil]; have := HLEN.out fd HB.out.2.1; omega) ps HB.out.2.2.1 X hI)
  go_wp2_with fail
  go_region_held3 (fun w' => w'.cell? ⟨w.heap.size, 2, none⟩ = some (.int .u64 (fd : Int)) ∧ w'.cell? ⟨w.heap.size, 3, none⟩ = some (.int .u64 (ps : Int)))
    (first | (exact ⟨c2, c3⟩) | (exact ⟨(hN4.b.cell (p := ⟨w.heap.size, 2, none⟩) (cell_lt c2).1).trans c2, (hN4.b.cell (p := ⟨w.heap.size, 3, none⟩) (cell_lt c3).1).trans c3⟩) | (exact ⟨(hN6.b.cell (p := ⟨w.heap.size, 2, none⟩) (cell_lt c2).1).trans c2, (hN6.b.cell (p := ⟨w.heap.size, 3, none⟩) (cell_lt c3).1).trans c3⟩))
    ((first
      | ((with_reducible refine (HX.out _ _ _ _ hN4 HL4.out HI4.out).mono ?_); rintro e w5 ⟨v5, rfl, ho5, hN5⟩; have hN6 := hN4.trans hN5)
      | ((with_reducible refine HC1.out.mono ?_); intro e w4 h4; obtain ⟨a4, cp4, n4, hn4, rfl, hI4, hN4, ho4⟩ := OwnR.app Nw.refl h4; have HO4 := Lib.hid ho4; have HI4 := Lib.hid hI4; have HL4 := Lib.hid hn4; clear h4 ho4 hI4 hn4)))
  go_wp2_with fail
  go_ret
  rw [HPL.out]
  exact OwnR.mono (HN3.out.drew.trans hN4) ⟨_, rfl, ho5, hN5⟩

set_option maxRecDepth 100000 in
set_option maxHeartbeats 4000000 in
theorem rput_6 (fl fd ps sz : Nat) (p d t : ByteArray) (hr : smallRq ⟨6, (fl : Int), (fd : Int), (ps : Int), (sz : Int), p, d, t⟩) (hm : mayR ⟨6, (fl : Int), (fd : Int), (ps : Int), (sz : Int), p, d, t⟩ = true) (w : World) : Calls Try.prog 16 #[rqV ⟨6, (fl : Int), (fd : Int), (ps : Int), (sz : Int), p, d, t⟩] w (OwnR w (putL ⟨6, (fl : Int), (fd : Int), (ps : Int), (sz : Int), p, d, t⟩)) := by
  have R0 := RqAt.new w ⟨6, (fl : Int), (fd : Int), (ps : Int), (sz : Int), p, d, t⟩
  have hn0 : Nw w (w.alloc (.cells #[.int .u8 6, .int .u8 (fl : Int), .int .u64 (fd : Int), .int .u64 (ps : Int), .int .u64 (sz : Int), .string p, .string d, .string t] 24)) := Nw.refl.alloc _
  have HMY := Lib.hid (fun W => rmay_any ⟨6, (fl : Int), (fd : Int), (ps : Int), (sz : Int), p, d, t⟩ W)
  have HPL := Lib.hid (show putL ⟨6, (fl : Int), (fd : Int), (ps : Int), (sz : Int), p, d, t⟩ = [(6 : Int)] ++ numL fd ++ numL ps from by simp [putL, fdsOf, put1])
  have hfl : (fl : Int) ≤ 255 := hr.ok.flags.2
  have hfd : (fd : Int) ≤ 18446744073709551615 := hr.ok.fd.2
  have hps : (ps : Int) ≤ 18446744073709551615 := hr.ok.pos.2
  have hsz : (sz : Int) ≤ 18446744073709551615 := hr.ok.size.2
  have hsm : p.size + d.size + t.size ≤ 100000 := hr.sm
  have hfl2 : (fl : Int) ≤ 18446744073709551615 := by omega
  have hlen : ∀ n : Nat, (n : Int) ≤ 18446744073709551615 → (numL n).length ≤ 9 := fun n hn => by rw [numL_length]; have := nb_le (n := n) (by omega); omega
  have HLEN := Lib.hid hlen
  have HB := Lib.hid (And.intro hfl2 (And.intro hfd (And.intro hps hsz)))
  rw [hm] at HMY
  unfold rqV at HMY ⊢
  dsimp only at HMY R0 ⊢
  clear hm hr hlen
  generalize hW : w.alloc (.cells #[.int .u8 6, .int .u8 (fl : Int), .int .u64 (fd : Int), .int .u64 (ps : Int), .int .u64 (sz : Int), .string p, .string d, .string t] 24) = W1 at R0 hn0
  have HN0 := Lib.hid hn0
  have HR0 := Lib.hid R0
  obtain ⟨c0, c1, c2, c3, c4, c5, c6, c7, _⟩ := R0
  clear hn0
  go_enter Try.func16, Try.ntmps16
  go_wp2_with fail
  clear hW
  refine (HMY.out _).mono ?_
  rintro e w2 ⟨rfl, hN2⟩
  have R2 := HR0.out.nw hN2
  have HN2 := Lib.hid (HN0.out.trans hN2)
  have HR2 := Lib.hid R2
  clear c0 c1 c2 c3 c4 c5 c6 c7 hN2
  obtain ⟨c0, c1, c2, c3, c4, c5, c6, c7, _⟩ := R2
  dsimp only at c0 c1 c2 c3 c4 c5 c6 c7
  go_upto_region 4 with fail
  have hI := Ints.one .u8 w2 6 5
  rw [show w2.heap.size + 1 = (w2.alloc (.cells #[.int .u8 6] 5)).heap.size from by simp] at hI
  have HR3 := Lib.hid (HR2.out.nw (Nw.refl.alloc (.cells #[.int .u8 6] 5)))
  have HN3 := Lib.hid (HN2.out.alloc (.cells #[.int .u8 6] 5))
  clear c0 c1 c2 c3 c4 c5 c6 c7
  generalize w2.alloc (.cells #[.int .u8 6] 5) = W3 at hI HR3 HN3 ⊢
  generalize w2.heap.size = B at hI ⊢
  have HI := Lib.hid hI
  clear hI
  obtain ⟨c0, c1, c2, c3, c4, c5, c6, c7, _⟩ := HR3.out
  dsimp only at c0 c1 c2 c3 c4 c5 c6 c7
  have HC1 := Lib.hid (refnum_any (some ⟨B, 0, none⟩) 1 1 [(6 : Int)] rfl (by omega) fd hfd W3.drew (HI.out.below (Below.refl _ _).drew))
  have HX := Lib.hid (fun (X : World) (a : Option Addr) (n c : Nat) (hN : Nw W3.drew X) (hn : n = ([(6 : Int)] ++ numL fd).length) (hI : Ints X.heap.size .u8 X a ([(6 : Int)] ++ numL fd)) => show Calls Try.prog 26 #[.slice a n c, .int .u64 (ps : Int)] X (OwnR X ([(6 : Int)] ++ numL fd ++ numL ps)) from by
    have := HLEN.out p.size (by omega)
    refine refnum_any a n c _ hn.symm (by rw [hn]; simp only [List.length_append, List.length_cons, List.length_nil]; have := HLEN.out fd HB.out.2.1; omega) ps HB.out.2.2.1 X hI)
  go_wp2_with fail
  go_region_held3 (fun w' => w'.cell? ⟨w.heap.size, 2, none⟩ = some (.int .u64 (fd : Int)) ∧ w'.cell? ⟨w.heap.size, 3, none⟩ = some (.int .u64 (ps : Int)))
    (first | (exact ⟨c2, c3⟩) | (exact ⟨(hN4.b.cell (p := ⟨w.heap.size, 2, none⟩) (cell_lt c2).1).trans c2, (hN4.b.cell (p := ⟨w.heap.size, 3, none⟩) (cell_lt c3).1).trans c3⟩) | (exact ⟨(hN6.b.cell (p := ⟨w.heap.size, 2, none⟩) (cell_lt c2).1).trans c2, (hN6.b.cell (p := ⟨w.heap.size, 3, none⟩) (cell_lt c3).1).trans c3⟩))
    ((first
      | ((with_reducible refine (HX.out _ _ _ _ hN4 HL4.out HI4.out).mono ?_); rintro e w5 ⟨v5, rfl, ho5, hN5⟩; have hN6 := hN4.trans hN5)
      | ((with_reducible refine HC1.out.mono ?_); intro e w4 h4; obtain ⟨a4, cp4, n4, hn4, rfl, hI4, hN4, ho4⟩ := OwnR.app Nw.refl h4; have HO4 := Lib.hid ho4; have HI4 := Lib.hid hI4; have HL4 := Lib.hid hn4; clear h4 ho4 hI4 hn4)))
  go_wp2_with fail
  go_ret
  rw [HPL.out]
  exact OwnR.mono (HN3.out.drew.trans hN4) ⟨_, rfl, ho5, hN5⟩

set_option maxRecDepth 100000 in
set_option maxHeartbeats 4000000 in
theorem rput_7 (fl fd ps sz : Nat) (p d t : ByteArray) (hr : smallRq ⟨7, (fl : Int), (fd : Int), (ps : Int), (sz : Int), p, d, t⟩) (hm : mayR ⟨7, (fl : Int), (fd : Int), (ps : Int), (sz : Int), p, d, t⟩ = true) (w : World) : Calls Try.prog 16 #[rqV ⟨7, (fl : Int), (fd : Int), (ps : Int), (sz : Int), p, d, t⟩] w (OwnR w (putL ⟨7, (fl : Int), (fd : Int), (ps : Int), (sz : Int), p, d, t⟩)) := by
  have R0 := RqAt.new w ⟨7, (fl : Int), (fd : Int), (ps : Int), (sz : Int), p, d, t⟩
  have hn0 : Nw w (w.alloc (.cells #[.int .u8 7, .int .u8 (fl : Int), .int .u64 (fd : Int), .int .u64 (ps : Int), .int .u64 (sz : Int), .string p, .string d, .string t] 24)) := Nw.refl.alloc _
  have HMY := Lib.hid (fun W => rmay_any ⟨7, (fl : Int), (fd : Int), (ps : Int), (sz : Int), p, d, t⟩ W)
  have HPL := Lib.hid (show putL ⟨7, (fl : Int), (fd : Int), (ps : Int), (sz : Int), p, d, t⟩ = [(7 : Int)] ++ txtB p from by simp [putL, fdsOf, put1])
  have hfl : (fl : Int) ≤ 255 := hr.ok.flags.2
  have hfd : (fd : Int) ≤ 18446744073709551615 := hr.ok.fd.2
  have hps : (ps : Int) ≤ 18446744073709551615 := hr.ok.pos.2
  have hsz : (sz : Int) ≤ 18446744073709551615 := hr.ok.size.2
  have hsm : p.size + d.size + t.size ≤ 100000 := hr.sm
  have hfl2 : (fl : Int) ≤ 18446744073709551615 := by omega
  have hlen : ∀ n : Nat, (n : Int) ≤ 18446744073709551615 → (numL n).length ≤ 9 := fun n hn => by rw [numL_length]; have := nb_le (n := n) (by omega); omega
  have HLEN := Lib.hid hlen
  have HB := Lib.hid (And.intro hfl2 (And.intro hfd (And.intro hps hsz)))
  rw [hm] at HMY
  unfold rqV at HMY ⊢
  dsimp only at HMY R0 ⊢
  clear hm hr hlen
  generalize hW : w.alloc (.cells #[.int .u8 7, .int .u8 (fl : Int), .int .u64 (fd : Int), .int .u64 (ps : Int), .int .u64 (sz : Int), .string p, .string d, .string t] 24) = W1 at R0 hn0
  have HN0 := Lib.hid hn0
  have HR0 := Lib.hid R0
  obtain ⟨c0, c1, c2, c3, c4, c5, c6, c7, _⟩ := R0
  clear hn0
  go_enter Try.func16, Try.ntmps16
  go_wp2_with fail
  clear hW
  refine (HMY.out _).mono ?_
  rintro e w2 ⟨rfl, hN2⟩
  have R2 := HR0.out.nw hN2
  have HN2 := Lib.hid (HN0.out.trans hN2)
  have HR2 := Lib.hid R2
  clear c0 c1 c2 c3 c4 c5 c6 c7 hN2
  obtain ⟨c0, c1, c2, c3, c4, c5, c6, c7, _⟩ := R2
  dsimp only at c0 c1 c2 c3 c4 c5 c6 c7
  go_upto_region 4 with fail
  have hI := Ints.one .u8 w2 7 5
  rw [show w2.heap.size + 1 = (w2.alloc (.cells #[.int .u8 7] 5)).heap.size from by simp] at hI
  have HR3 := Lib.hid (HR2.out.nw (Nw.refl.alloc (.cells #[.int .u8 7] 5)))
  have HN3 := Lib.hid (HN2.out.alloc (.cells #[.int .u8 7] 5))
  clear c0 c1 c2 c3 c4 c5 c6 c7
  generalize w2.alloc (.cells #[.int .u8 7] 5) = W3 at hI HR3 HN3 ⊢
  generalize w2.heap.size = B at hI ⊢
  have HI := Lib.hid hI
  clear hI
  obtain ⟨c0, c1, c2, c3, c4, c5, c6, c7, _⟩ := HR3.out
  dsimp only at c0 c1 c2 c3 c4 c5 c6 c7
  go_wp2_with fail
  refine (reftext_any (some ⟨B, 0, none⟩) 1 1 [(7 : Int)] p rfl (by omega) W3 HI.out).mono ?_
  rintro e w4 ⟨v4, rfl, ho, hN4⟩
  go_wp2_with fail
  go_ret
  rw [HPL.out]
  exact OwnR.mono HN3.out ⟨_, rfl, ho, hN4⟩

set_option maxRecDepth 100000 in
set_option maxHeartbeats 4000000 in
theorem rput_8 (fl fd ps sz : Nat) (p d t : ByteArray) (hr : smallRq ⟨8, (fl : Int), (fd : Int), (ps : Int), (sz : Int), p, d, t⟩) (hm : mayR ⟨8, (fl : Int), (fd : Int), (ps : Int), (sz : Int), p, d, t⟩ = true) (w : World) : Calls Try.prog 16 #[rqV ⟨8, (fl : Int), (fd : Int), (ps : Int), (sz : Int), p, d, t⟩] w (OwnR w (putL ⟨8, (fl : Int), (fd : Int), (ps : Int), (sz : Int), p, d, t⟩)) := by
  have R0 := RqAt.new w ⟨8, (fl : Int), (fd : Int), (ps : Int), (sz : Int), p, d, t⟩
  have hn0 : Nw w (w.alloc (.cells #[.int .u8 8, .int .u8 (fl : Int), .int .u64 (fd : Int), .int .u64 (ps : Int), .int .u64 (sz : Int), .string p, .string d, .string t] 24)) := Nw.refl.alloc _
  have HMY := Lib.hid (fun W => rmay_any ⟨8, (fl : Int), (fd : Int), (ps : Int), (sz : Int), p, d, t⟩ W)
  have HPL := Lib.hid (show putL ⟨8, (fl : Int), (fd : Int), (ps : Int), (sz : Int), p, d, t⟩ = [(8 : Int)] ++ txtB p from by simp [putL, fdsOf, put1])
  have hfl : (fl : Int) ≤ 255 := hr.ok.flags.2
  have hfd : (fd : Int) ≤ 18446744073709551615 := hr.ok.fd.2
  have hps : (ps : Int) ≤ 18446744073709551615 := hr.ok.pos.2
  have hsz : (sz : Int) ≤ 18446744073709551615 := hr.ok.size.2
  have hsm : p.size + d.size + t.size ≤ 100000 := hr.sm
  have hfl2 : (fl : Int) ≤ 18446744073709551615 := by omega
  have hlen : ∀ n : Nat, (n : Int) ≤ 18446744073709551615 → (numL n).length ≤ 9 := fun n hn => by rw [numL_length]; have := nb_le (n := n) (by omega); omega
  have HLEN := Lib.hid hlen
  have HB := Lib.hid (And.intro hfl2 (And.intro hfd (And.intro hps hsz)))
  rw [hm] at HMY
  unfold rqV at HMY ⊢
  dsimp only at HMY R0 ⊢
  clear hm hr hlen
  generalize hW : w.alloc (.cells #[.int .u8 8, .int .u8 (fl : Int), .int .u64 (fd : Int), .int .u64 (ps : Int), .int .u64 (sz : Int), .string p, .string d, .string t] 24) = W1 at R0 hn0
  have HN0 := Lib.hid hn0
  have HR0 := Lib.hid R0
  obtain ⟨c0, c1, c2, c3, c4, c5, c6, c7, _⟩ := R0
  clear hn0
  go_enter Try.func16, Try.ntmps16
  go_wp2_with fail
  clear hW
  refine (HMY.out _).mono ?_
  rintro e w2 ⟨rfl, hN2⟩
  have R2 := HR0.out.nw hN2
  have HN2 := Lib.hid (HN0.out.trans hN2)
  have HR2 := Lib.hid R2
  clear c0 c1 c2 c3 c4 c5 c6 c7 hN2
  obtain ⟨c0, c1, c2, c3, c4, c5, c6, c7, _⟩ := R2
  dsimp only at c0 c1 c2 c3 c4 c5 c6 c7
  go_upto_region 4 with fail
  have hI := Ints.one .u8 w2 8 5
  rw [show w2.heap.size + 1 = (w2.alloc (.cells #[.int .u8 8] 5)).heap.size from by simp] at hI
  have HR3 := Lib.hid (HR2.out.nw (Nw.refl.alloc (.cells #[.int .u8 8] 5)))
  have HN3 := Lib.hid (HN2.out.alloc (.cells #[.int .u8 8] 5))
  clear c0 c1 c2 c3 c4 c5 c6 c7
  generalize w2.alloc (.cells #[.int .u8 8] 5) = W3 at hI HR3 HN3 ⊢
  generalize w2.heap.size = B at hI ⊢
  have HI := Lib.hid hI
  clear hI
  obtain ⟨c0, c1, c2, c3, c4, c5, c6, c7, _⟩ := HR3.out
  dsimp only at c0 c1 c2 c3 c4 c5 c6 c7
  go_wp2_with fail
  refine (reftext_any (some ⟨B, 0, none⟩) 1 1 [(8 : Int)] p rfl (by omega) W3 HI.out).mono ?_
  rintro e w4 ⟨v4, rfl, ho, hN4⟩
  go_wp2_with fail
  go_ret
  rw [HPL.out]
  exact OwnR.mono HN3.out ⟨_, rfl, ho, hN4⟩

set_option maxRecDepth 100000 in
set_option maxHeartbeats 4000000 in
theorem rput_9 (fl fd ps sz : Nat) (p d t : ByteArray) (hr : smallRq ⟨9, (fl : Int), (fd : Int), (ps : Int), (sz : Int), p, d, t⟩) (hm : mayR ⟨9, (fl : Int), (fd : Int), (ps : Int), (sz : Int), p, d, t⟩ = true) (w : World) : Calls Try.prog 16 #[rqV ⟨9, (fl : Int), (fd : Int), (ps : Int), (sz : Int), p, d, t⟩] w (OwnR w (putL ⟨9, (fl : Int), (fd : Int), (ps : Int), (sz : Int), p, d, t⟩)) := by
  have R0 := RqAt.new w ⟨9, (fl : Int), (fd : Int), (ps : Int), (sz : Int), p, d, t⟩
  have hn0 : Nw w (w.alloc (.cells #[.int .u8 9, .int .u8 (fl : Int), .int .u64 (fd : Int), .int .u64 (ps : Int), .int .u64 (sz : Int), .string p, .string d, .string t] 24)) := Nw.refl.alloc _
  have HMY := Lib.hid (fun W => rmay_any ⟨9, (fl : Int), (fd : Int), (ps : Int), (sz : Int), p, d, t⟩ W)
  have HPL := Lib.hid (show putL ⟨9, (fl : Int), (fd : Int), (ps : Int), (sz : Int), p, d, t⟩ = [(9 : Int)] ++ txtB p from by simp [putL, fdsOf, put1])
  have hfl : (fl : Int) ≤ 255 := hr.ok.flags.2
  have hfd : (fd : Int) ≤ 18446744073709551615 := hr.ok.fd.2
  have hps : (ps : Int) ≤ 18446744073709551615 := hr.ok.pos.2
  have hsz : (sz : Int) ≤ 18446744073709551615 := hr.ok.size.2
  have hsm : p.size + d.size + t.size ≤ 100000 := hr.sm
  have hfl2 : (fl : Int) ≤ 18446744073709551615 := by omega
  have hlen : ∀ n : Nat, (n : Int) ≤ 18446744073709551615 → (numL n).length ≤ 9 := fun n hn => by rw [numL_length]; have := nb_le (n := n) (by omega); omega
  have HLEN := Lib.hid hlen
  have HB := Lib.hid (And.intro hfl2 (And.intro hfd (And.intro hps hsz)))
  rw [hm] at HMY
  unfold rqV at HMY ⊢
  dsimp only at HMY R0 ⊢
  clear hm hr hlen
  generalize hW : w.alloc (.cells #[.int .u8 9, .int .u8 (fl : Int), .int .u64 (fd : Int), .int .u64 (ps : Int), .int .u64 (sz : Int), .string p, .string d, .string t] 24) = W1 at R0 hn0
  have HN0 := Lib.hid hn0
  have HR0 := Lib.hid R0
  obtain ⟨c0, c1, c2, c3, c4, c5, c6, c7, _⟩ := R0
  clear hn0
  go_enter Try.func16, Try.ntmps16
  go_wp2_with fail
  clear hW
  refine (HMY.out _).mono ?_
  rintro e w2 ⟨rfl, hN2⟩
  have R2 := HR0.out.nw hN2
  have HN2 := Lib.hid (HN0.out.trans hN2)
  have HR2 := Lib.hid R2
  clear c0 c1 c2 c3 c4 c5 c6 c7 hN2
  obtain ⟨c0, c1, c2, c3, c4, c5, c6, c7, _⟩ := R2
  dsimp only at c0 c1 c2 c3 c4 c5 c6 c7
  go_upto_region 4 with fail
  have hI := Ints.one .u8 w2 9 5
  rw [show w2.heap.size + 1 = (w2.alloc (.cells #[.int .u8 9] 5)).heap.size from by simp] at hI
  have HR3 := Lib.hid (HR2.out.nw (Nw.refl.alloc (.cells #[.int .u8 9] 5)))
  have HN3 := Lib.hid (HN2.out.alloc (.cells #[.int .u8 9] 5))
  clear c0 c1 c2 c3 c4 c5 c6 c7
  generalize w2.alloc (.cells #[.int .u8 9] 5) = W3 at hI HR3 HN3 ⊢
  generalize w2.heap.size = B at hI ⊢
  have HI := Lib.hid hI
  clear hI
  obtain ⟨c0, c1, c2, c3, c4, c5, c6, c7, _⟩ := HR3.out
  dsimp only at c0 c1 c2 c3 c4 c5 c6 c7
  go_wp2_with fail
  refine (reftext_any (some ⟨B, 0, none⟩) 1 1 [(9 : Int)] p rfl (by omega) W3 HI.out).mono ?_
  rintro e w4 ⟨v4, rfl, ho, hN4⟩
  go_wp2_with fail
  go_ret
  rw [HPL.out]
  exact OwnR.mono HN3.out ⟨_, rfl, ho, hN4⟩

set_option maxRecDepth 100000 in
set_option maxHeartbeats 4000000 in
theorem rput_10 (fl fd ps sz : Nat) (p d t : ByteArray) (hr : smallRq ⟨10, (fl : Int), (fd : Int), (ps : Int), (sz : Int), p, d, t⟩) (hm : mayR ⟨10, (fl : Int), (fd : Int), (ps : Int), (sz : Int), p, d, t⟩ = true) (w : World) : Calls Try.prog 16 #[rqV ⟨10, (fl : Int), (fd : Int), (ps : Int), (sz : Int), p, d, t⟩] w (OwnR w (putL ⟨10, (fl : Int), (fd : Int), (ps : Int), (sz : Int), p, d, t⟩)) := by
  have R0 := RqAt.new w ⟨10, (fl : Int), (fd : Int), (ps : Int), (sz : Int), p, d, t⟩
  have hn0 : Nw w (w.alloc (.cells #[.int .u8 10, .int .u8 (fl : Int), .int .u64 (fd : Int), .int .u64 (ps : Int), .int .u64 (sz : Int), .string p, .string d, .string t] 24)) := Nw.refl.alloc _
  have HMY := Lib.hid (fun W => rmay_any ⟨10, (fl : Int), (fd : Int), (ps : Int), (sz : Int), p, d, t⟩ W)
  have HPL := Lib.hid (show putL ⟨10, (fl : Int), (fd : Int), (ps : Int), (sz : Int), p, d, t⟩ = [(10 : Int)] ++ txtB p ++ txtB d from by simp [putL, fdsOf, put1])
  have hfl : (fl : Int) ≤ 255 := hr.ok.flags.2
  have hfd : (fd : Int) ≤ 18446744073709551615 := hr.ok.fd.2
  have hps : (ps : Int) ≤ 18446744073709551615 := hr.ok.pos.2
  have hsz : (sz : Int) ≤ 18446744073709551615 := hr.ok.size.2
  have hsm : p.size + d.size + t.size ≤ 100000 := hr.sm
  have hfl2 : (fl : Int) ≤ 18446744073709551615 := by omega
  have hlen : ∀ n : Nat, (n : Int) ≤ 18446744073709551615 → (numL n).length ≤ 9 := fun n hn => by rw [numL_length]; have := nb_le (n := n) (by omega); omega
  have HLEN := Lib.hid hlen
  have HB := Lib.hid (And.intro hfl2 (And.intro hfd (And.intro hps hsz)))
  rw [hm] at HMY
  unfold rqV at HMY ⊢
  dsimp only at HMY R0 ⊢
  clear hm hr hlen
  generalize hW : w.alloc (.cells #[.int .u8 10, .int .u8 (fl : Int), .int .u64 (fd : Int), .int .u64 (ps : Int), .int .u64 (sz : Int), .string p, .string d, .string t] 24) = W1 at R0 hn0
  have HN0 := Lib.hid hn0
  have HR0 := Lib.hid R0
  obtain ⟨c0, c1, c2, c3, c4, c5, c6, c7, _⟩ := R0
  clear hn0
  go_enter Try.func16, Try.ntmps16
  go_wp2_with fail
  clear hW
  refine (HMY.out _).mono ?_
  rintro e w2 ⟨rfl, hN2⟩
  have R2 := HR0.out.nw hN2
  have HN2 := Lib.hid (HN0.out.trans hN2)
  have HR2 := Lib.hid R2
  clear c0 c1 c2 c3 c4 c5 c6 c7 hN2
  obtain ⟨c0, c1, c2, c3, c4, c5, c6, c7, _⟩ := R2
  dsimp only at c0 c1 c2 c3 c4 c5 c6 c7
  go_upto_region 4 with fail
  have hI := Ints.one .u8 w2 10 5
  rw [show w2.heap.size + 1 = (w2.alloc (.cells #[.int .u8 10] 5)).heap.size from by simp] at hI
  have HR3 := Lib.hid (HR2.out.nw (Nw.refl.alloc (.cells #[.int .u8 10] 5)))
  have HN3 := Lib.hid (HN2.out.alloc (.cells #[.int .u8 10] 5))
  clear c0 c1 c2 c3 c4 c5 c6 c7
  generalize w2.alloc (.cells #[.int .u8 10] 5) = W3 at hI HR3 HN3 ⊢
  generalize w2.heap.size = B at hI ⊢
  have HI := Lib.hid hI
  clear hI
  obtain ⟨c0, c1, c2, c3, c4, c5, c6, c7, _⟩ := HR3.out
  dsimp only at c0 c1 c2 c3 c4 c5 c6 c7
  have HC1 := Lib.hid (reftext_any (some ⟨B, 0, none⟩) 1 1 [(10 : Int)] p rfl (by omega) W3.drew (HI.out.below (Below.refl _ _).drew))
  have HX := Lib.hid (fun (X : World) (a : Option Addr) (n c : Nat) (hN : Nw W3.drew X) (hn : n = ([(10 : Int)] ++ txtB p).length) (hI : Ints X.heap.size .u8 X a ([(10 : Int)] ++ txtB p)) => show Calls Try.prog 27 #[.slice a n c, .string d] X (OwnR X ([(10 : Int)] ++ txtB p ++ txtB d)) from by
    have := HLEN.out p.size (by omega)
    refine reftext_any a n c _ d hn.symm (by rw [hn]; simp only [List.length_append, List.length_cons, List.length_nil, txtB, strB_length]; omega) X hI)
  go_wp2_with fail
  go_region_held3 (fun w' => w'.cell? ⟨w.heap.size, 5, none⟩ = some (.string p) ∧ w'.cell? ⟨w.heap.size, 6, none⟩ = some (.string d))
    (first | (exact ⟨c5, c6⟩) | (exact ⟨(hN4.b.cell (p := ⟨w.heap.size, 5, none⟩) (cell_lt c5).1).trans c5, (hN4.b.cell (p := ⟨w.heap.size, 6, none⟩) (cell_lt c6).1).trans c6⟩) | (exact ⟨(hN6.b.cell (p := ⟨w.heap.size, 5, none⟩) (cell_lt c5).1).trans c5, (hN6.b.cell (p := ⟨w.heap.size, 6, none⟩) (cell_lt c6).1).trans c6⟩))
    ((first
      | ((with_reducible refine (HX.out _ _ _ _ hN4 HL4.out HI4.out).mono ?_); rintro e w5 ⟨v5, rfl, ho5, hN5⟩; have hN6 := hN4.trans hN5)
      | ((with_reducible refine HC1.out.mono ?_); intro e w4 h4; obtain ⟨a4, cp4, n4, hn4, rfl, hI4, hN4, ho4⟩ := OwnR.app Nw.refl h4; have HO4 := Lib.hid ho4; have HI4 := Lib.hid hI4; have HL4 := Lib.hid hn4; clear h4 ho4 hI4 hn4)))
  go_wp2_with fail
  go_ret
  rw [HPL.out]
  exact OwnR.mono (HN3.out.drew.trans hN4) ⟨_, rfl, ho5, hN5⟩

set_option maxRecDepth 100000 in
set_option maxHeartbeats 4000000 in
theorem rput_11 (fl fd ps sz : Nat) (p d t : ByteArray) (hr : smallRq ⟨11, (fl : Int), (fd : Int), (ps : Int), (sz : Int), p, d, t⟩) (hm : mayR ⟨11, (fl : Int), (fd : Int), (ps : Int), (sz : Int), p, d, t⟩ = true) (w : World) : Calls Try.prog 16 #[rqV ⟨11, (fl : Int), (fd : Int), (ps : Int), (sz : Int), p, d, t⟩] w (OwnR w (putL ⟨11, (fl : Int), (fd : Int), (ps : Int), (sz : Int), p, d, t⟩)) := by
  have R0 := RqAt.new w ⟨11, (fl : Int), (fd : Int), (ps : Int), (sz : Int), p, d, t⟩
  have hn0 : Nw w (w.alloc (.cells #[.int .u8 11, .int .u8 (fl : Int), .int .u64 (fd : Int), .int .u64 (ps : Int), .int .u64 (sz : Int), .string p, .string d, .string t] 24)) := Nw.refl.alloc _
  have HMY := Lib.hid (fun W => rmay_any ⟨11, (fl : Int), (fd : Int), (ps : Int), (sz : Int), p, d, t⟩ W)
  have HPL := Lib.hid (show putL ⟨11, (fl : Int), (fd : Int), (ps : Int), (sz : Int), p, d, t⟩ = [(11 : Int)] ++ txtB p from by simp [putL, fdsOf, put1])
  have hfl : (fl : Int) ≤ 255 := hr.ok.flags.2
  have hfd : (fd : Int) ≤ 18446744073709551615 := hr.ok.fd.2
  have hps : (ps : Int) ≤ 18446744073709551615 := hr.ok.pos.2
  have hsz : (sz : Int) ≤ 18446744073709551615 := hr.ok.size.2
  have hsm : p.size + d.size + t.size ≤ 100000 := hr.sm
  have hfl2 : (fl : Int) ≤ 18446744073709551615 := by omega
  have hlen : ∀ n : Nat, (n : Int) ≤ 18446744073709551615 → (numL n).length ≤ 9 := fun n hn => by rw [numL_length]; have := nb_le (n := n) (by omega); omega
  have HLEN := Lib.hid hlen
  have HB := Lib.hid (And.intro hfl2 (And.intro hfd (And.intro hps hsz)))
  rw [hm] at HMY
  unfold rqV at HMY ⊢
  dsimp only at HMY R0 ⊢
  clear hm hr hlen
  generalize hW : w.alloc (.cells #[.int .u8 11, .int .u8 (fl : Int), .int .u64 (fd : Int), .int .u64 (ps : Int), .int .u64 (sz : Int), .string p, .string d, .string t] 24) = W1 at R0 hn0
  have HN0 := Lib.hid hn0
  have HR0 := Lib.hid R0
  obtain ⟨c0, c1, c2, c3, c4, c5, c6, c7, _⟩ := R0
  clear hn0
  go_enter Try.func16, Try.ntmps16
  go_wp2_with fail
  clear hW
  refine (HMY.out _).mono ?_
  rintro e w2 ⟨rfl, hN2⟩
  have R2 := HR0.out.nw hN2
  have HN2 := Lib.hid (HN0.out.trans hN2)
  have HR2 := Lib.hid R2
  clear c0 c1 c2 c3 c4 c5 c6 c7 hN2
  obtain ⟨c0, c1, c2, c3, c4, c5, c6, c7, _⟩ := R2
  dsimp only at c0 c1 c2 c3 c4 c5 c6 c7
  go_upto_region 4 with fail
  have hI := Ints.one .u8 w2 11 5
  rw [show w2.heap.size + 1 = (w2.alloc (.cells #[.int .u8 11] 5)).heap.size from by simp] at hI
  have HR3 := Lib.hid (HR2.out.nw (Nw.refl.alloc (.cells #[.int .u8 11] 5)))
  have HN3 := Lib.hid (HN2.out.alloc (.cells #[.int .u8 11] 5))
  clear c0 c1 c2 c3 c4 c5 c6 c7
  generalize w2.alloc (.cells #[.int .u8 11] 5) = W3 at hI HR3 HN3 ⊢
  generalize w2.heap.size = B at hI ⊢
  have HI := Lib.hid hI
  clear hI
  obtain ⟨c0, c1, c2, c3, c4, c5, c6, c7, _⟩ := HR3.out
  dsimp only at c0 c1 c2 c3 c4 c5 c6 c7
  go_wp2_with fail
  refine (reftext_any (some ⟨B, 0, none⟩) 1 1 [(11 : Int)] p rfl (by omega) W3 HI.out).mono ?_
  rintro e w4 ⟨v4, rfl, ho, hN4⟩
  go_wp2_with fail
  go_ret
  rw [HPL.out]
  exact OwnR.mono HN3.out ⟨_, rfl, ho, hN4⟩

set_option maxRecDepth 100000 in
set_option maxHeartbeats 4000000 in
theorem rput_12 (fl fd ps sz : Nat) (p d t : ByteArray) (hr : smallRq ⟨12, (fl : Int), (fd : Int), (ps : Int), (sz : Int), p, d, t⟩) (hm : mayR ⟨12, (fl : Int), (fd : Int), (ps : Int), (sz : Int), p, d, t⟩ = true) (w : World) : Calls Try.prog 16 #[rqV ⟨12, (fl : Int), (fd : Int), (ps : Int), (sz : Int), p, d, t⟩] w (OwnR w (putL ⟨12, (fl : Int), (fd : Int), (ps : Int), (sz : Int), p, d, t⟩)) := by
  have R0 := RqAt.new w ⟨12, (fl : Int), (fd : Int), (ps : Int), (sz : Int), p, d, t⟩
  have hn0 : Nw w (w.alloc (.cells #[.int .u8 12, .int .u8 (fl : Int), .int .u64 (fd : Int), .int .u64 (ps : Int), .int .u64 (sz : Int), .string p, .string d, .string t] 24)) := Nw.refl.alloc _
  have HMY := Lib.hid (fun W => rmay_any ⟨12, (fl : Int), (fd : Int), (ps : Int), (sz : Int), p, d, t⟩ W)
  have HPL := Lib.hid (show putL ⟨12, (fl : Int), (fd : Int), (ps : Int), (sz : Int), p, d, t⟩ = [(12 : Int)] ++ txtB p ++ txtB d from by simp [putL, fdsOf, put1])
  have hfl : (fl : Int) ≤ 255 := hr.ok.flags.2
  have hfd : (fd : Int) ≤ 18446744073709551615 := hr.ok.fd.2
  have hps : (ps : Int) ≤ 18446744073709551615 := hr.ok.pos.2
  have hsz : (sz : Int) ≤ 18446744073709551615 := hr.ok.size.2
  have hsm : p.size + d.size + t.size ≤ 100000 := hr.sm
  have hfl2 : (fl : Int) ≤ 18446744073709551615 := by omega
  have hlen : ∀ n : Nat, (n : Int) ≤ 18446744073709551615 → (numL n).length ≤ 9 := fun n hn => by rw [numL_length]; have := nb_le (n := n) (by omega); omega
  have HLEN := Lib.hid hlen
  have HB := Lib.hid (And.intro hfl2 (And.intro hfd (And.intro hps hsz)))
  rw [hm] at HMY
  unfold rqV at HMY ⊢
  dsimp only at HMY R0 ⊢
  clear hm hr hlen
  generalize hW : w.alloc (.cells #[.int .u8 12, .int .u8 (fl : Int), .int .u64 (fd : Int), .int .u64 (ps : Int), .int .u64 (sz : Int), .string p, .string d, .string t] 24) = W1 at R0 hn0
  have HN0 := Lib.hid hn0
  have HR0 := Lib.hid R0
  obtain ⟨c0, c1, c2, c3, c4, c5, c6, c7, _⟩ := R0
  clear hn0
  go_enter Try.func16, Try.ntmps16
  go_wp2_with fail
  clear hW
  refine (HMY.out _).mono ?_
  rintro e w2 ⟨rfl, hN2⟩
  have R2 := HR0.out.nw hN2
  have HN2 := Lib.hid (HN0.out.trans hN2)
  have HR2 := Lib.hid R2
  clear c0 c1 c2 c3 c4 c5 c6 c7 hN2
  obtain ⟨c0, c1, c2, c3, c4, c5, c6, c7, _⟩ := R2
  dsimp only at c0 c1 c2 c3 c4 c5 c6 c7
  go_upto_region 4 with fail
  have hI := Ints.one .u8 w2 12 5
  rw [show w2.heap.size + 1 = (w2.alloc (.cells #[.int .u8 12] 5)).heap.size from by simp] at hI
  have HR3 := Lib.hid (HR2.out.nw (Nw.refl.alloc (.cells #[.int .u8 12] 5)))
  have HN3 := Lib.hid (HN2.out.alloc (.cells #[.int .u8 12] 5))
  clear c0 c1 c2 c3 c4 c5 c6 c7
  generalize w2.alloc (.cells #[.int .u8 12] 5) = W3 at hI HR3 HN3 ⊢
  generalize w2.heap.size = B at hI ⊢
  have HI := Lib.hid hI
  clear hI
  obtain ⟨c0, c1, c2, c3, c4, c5, c6, c7, _⟩ := HR3.out
  dsimp only at c0 c1 c2 c3 c4 c5 c6 c7
  have HC1 := Lib.hid (reftext_any (some ⟨B, 0, none⟩) 1 1 [(12 : Int)] p rfl (by omega) W3.drew (HI.out.below (Below.refl _ _).drew))
  have HX := Lib.hid (fun (X : World) (a : Option Addr) (n c : Nat) (hN : Nw W3.drew X) (hn : n = ([(12 : Int)] ++ txtB p).length) (hI : Ints X.heap.size .u8 X a ([(12 : Int)] ++ txtB p)) => show Calls Try.prog 27 #[.slice a n c, .string d] X (OwnR X ([(12 : Int)] ++ txtB p ++ txtB d)) from by
    have := HLEN.out p.size (by omega)
    refine reftext_any a n c _ d hn.symm (by rw [hn]; simp only [List.length_append, List.length_cons, List.length_nil, txtB, strB_length]; omega) X hI)
  go_wp2_with fail
  go_region_held3 (fun w' => w'.cell? ⟨w.heap.size, 5, none⟩ = some (.string p) ∧ w'.cell? ⟨w.heap.size, 6, none⟩ = some (.string d))
    (first | (exact ⟨c5, c6⟩) | (exact ⟨(hN4.b.cell (p := ⟨w.heap.size, 5, none⟩) (cell_lt c5).1).trans c5, (hN4.b.cell (p := ⟨w.heap.size, 6, none⟩) (cell_lt c6).1).trans c6⟩) | (exact ⟨(hN6.b.cell (p := ⟨w.heap.size, 5, none⟩) (cell_lt c5).1).trans c5, (hN6.b.cell (p := ⟨w.heap.size, 6, none⟩) (cell_lt c6).1).trans c6⟩))
    ((first
      | ((with_reducible refine (HX.out _ _ _ _ hN4 HL4.out HI4.out).mono ?_); rintro e w5 ⟨v5, rfl, ho5, hN5⟩; have hN6 := hN4.trans hN5)
      | ((with_reducible refine HC1.out.mono ?_); intro e w4 h4; obtain ⟨a4, cp4, n4, hn4, rfl, hI4, hN4, ho4⟩ := OwnR.app Nw.refl h4; have HO4 := Lib.hid ho4; have HI4 := Lib.hid hI4; have HL4 := Lib.hid hn4; clear h4 ho4 hI4 hn4)))
  go_wp2_with fail
  go_ret
  rw [HPL.out]
  exact OwnR.mono (HN3.out.drew.trans hN4) ⟨_, rfl, ho5, hN5⟩

set_option maxRecDepth 100000 in
set_option maxHeartbeats 4000000 in
theorem rput_13 (fl fd ps sz : Nat) (p d t : ByteArray) (hr : smallRq ⟨13, (fl : Int), (fd : Int), (ps : Int), (sz : Int), p, d, t⟩) (hm : mayR ⟨13, (fl : Int), (fd : Int), (ps : Int), (sz : Int), p, d, t⟩ = true) (w : World) : Calls Try.prog 16 #[rqV ⟨13, (fl : Int), (fd : Int), (ps : Int), (sz : Int), p, d, t⟩] w (OwnR w (putL ⟨13, (fl : Int), (fd : Int), (ps : Int), (sz : Int), p, d, t⟩)) := by
  have R0 := RqAt.new w ⟨13, (fl : Int), (fd : Int), (ps : Int), (sz : Int), p, d, t⟩
  have hn0 : Nw w (w.alloc (.cells #[.int .u8 13, .int .u8 (fl : Int), .int .u64 (fd : Int), .int .u64 (ps : Int), .int .u64 (sz : Int), .string p, .string d, .string t] 24)) := Nw.refl.alloc _
  have HMY := Lib.hid (fun W => rmay_any ⟨13, (fl : Int), (fd : Int), (ps : Int), (sz : Int), p, d, t⟩ W)
  have HPL := Lib.hid (show putL ⟨13, (fl : Int), (fd : Int), (ps : Int), (sz : Int), p, d, t⟩ = [(13 : Int)] ++ txtB p ++ numL ps from by simp [putL, fdsOf, put1])
  have hfl : (fl : Int) ≤ 255 := hr.ok.flags.2
  have hfd : (fd : Int) ≤ 18446744073709551615 := hr.ok.fd.2
  have hps : (ps : Int) ≤ 18446744073709551615 := hr.ok.pos.2
  have hsz : (sz : Int) ≤ 18446744073709551615 := hr.ok.size.2
  have hsm : p.size + d.size + t.size ≤ 100000 := hr.sm
  have hfl2 : (fl : Int) ≤ 18446744073709551615 := by omega
  have hlen : ∀ n : Nat, (n : Int) ≤ 18446744073709551615 → (numL n).length ≤ 9 := fun n hn => by rw [numL_length]; have := nb_le (n := n) (by omega); omega
  have HLEN := Lib.hid hlen
  have HB := Lib.hid (And.intro hfl2 (And.intro hfd (And.intro hps hsz)))
  rw [hm] at HMY
  unfold rqV at HMY ⊢
  dsimp only at HMY R0 ⊢
  clear hm hr hlen
  generalize hW : w.alloc (.cells #[.int .u8 13, .int .u8 (fl : Int), .int .u64 (fd : Int), .int .u64 (ps : Int), .int .u64 (sz : Int), .string p, .string d, .string t] 24) = W1 at R0 hn0
  have HN0 := Lib.hid hn0
  have HR0 := Lib.hid R0
  obtain ⟨c0, c1, c2, c3, c4, c5, c6, c7, _⟩ := R0
  clear hn0
  go_enter Try.func16, Try.ntmps16
  go_wp2_with fail
  clear hW
  refine (HMY.out _).mono ?_
  rintro e w2 ⟨rfl, hN2⟩
  have R2 := HR0.out.nw hN2
  have HN2 := Lib.hid (HN0.out.trans hN2)
  have HR2 := Lib.hid R2
  clear c0 c1 c2 c3 c4 c5 c6 c7 hN2
  obtain ⟨c0, c1, c2, c3, c4, c5, c6, c7, _⟩ := R2
  dsimp only at c0 c1 c2 c3 c4 c5 c6 c7
  go_upto_region 4 with fail
  have hI := Ints.one .u8 w2 13 5
  rw [show w2.heap.size + 1 = (w2.alloc (.cells #[.int .u8 13] 5)).heap.size from by simp] at hI
  have HR3 := Lib.hid (HR2.out.nw (Nw.refl.alloc (.cells #[.int .u8 13] 5)))
  have HN3 := Lib.hid (HN2.out.alloc (.cells #[.int .u8 13] 5))
  clear c0 c1 c2 c3 c4 c5 c6 c7
  generalize w2.alloc (.cells #[.int .u8 13] 5) = W3 at hI HR3 HN3 ⊢
  generalize w2.heap.size = B at hI ⊢
  have HI := Lib.hid hI
  clear hI
  obtain ⟨c0, c1, c2, c3, c4, c5, c6, c7, _⟩ := HR3.out
  dsimp only at c0 c1 c2 c3 c4 c5 c6 c7
  have HC1 := Lib.hid (reftext_any (some ⟨B, 0, none⟩) 1 1 [(13 : Int)] p rfl (by omega) W3.drew (HI.out.below (Below.refl _ _).drew))
  have HX := Lib.hid (fun (X : World) (a : Option Addr) (n c : Nat) (hN : Nw W3.drew X) (hn : n = ([(13 : Int)] ++ txtB p).length) (hI : Ints X.heap.size .u8 X a ([(13 : Int)] ++ txtB p)) => show Calls Try.prog 26 #[.slice a n c, .int .u64 (ps : Int)] X (OwnR X ([(13 : Int)] ++ txtB p ++ numL ps)) from by
    have := HLEN.out p.size (by omega)
    refine refnum_any a n c _ hn.symm (by rw [hn]; simp only [List.length_append, List.length_cons, List.length_nil, txtB, strB_length]; omega) ps HB.out.2.2.1 X hI)
  go_wp2_with fail
  go_region_held3 (fun w' => w'.cell? ⟨w.heap.size, 5, none⟩ = some (.string p) ∧ w'.cell? ⟨w.heap.size, 3, none⟩ = some (.int .u64 (ps : Int)))
    (first | (exact ⟨c5, c3⟩) | (exact ⟨(hN4.b.cell (p := ⟨w.heap.size, 5, none⟩) (cell_lt c5).1).trans c5, (hN4.b.cell (p := ⟨w.heap.size, 3, none⟩) (cell_lt c3).1).trans c3⟩) | (exact ⟨(hN6.b.cell (p := ⟨w.heap.size, 5, none⟩) (cell_lt c5).1).trans c5, (hN6.b.cell (p := ⟨w.heap.size, 3, none⟩) (cell_lt c3).1).trans c3⟩))
    ((first
      | ((with_reducible refine (HX.out _ _ _ _ hN4 HL4.out HI4.out).mono ?_); rintro e w5 ⟨v5, rfl, ho5, hN5⟩; have hN6 := hN4.trans hN5)
      | ((with_reducible refine HC1.out.mono ?_); intro e w4 h4; obtain ⟨a4, cp4, n4, hn4, rfl, hI4, hN4, ho4⟩ := OwnR.app Nw.refl h4; have HO4 := Lib.hid ho4; have HI4 := Lib.hid hI4; have HL4 := Lib.hid hn4; clear h4 ho4 hI4 hn4)))
  go_wp2_with fail
  go_ret
  rw [HPL.out]
  exact OwnR.mono (HN3.out.drew.trans hN4) ⟨_, rfl, ho5, hN5⟩

theorem rput_any (r : Rq) (hr : smallRq r) (w : World) : Calls Try.prog 16 #[rqV r] w (OwnR w (putQ r)) := by
  by_cases hm : mayR r = true
  · rw [show putQ r = putL r from if_pos (by rw [may_eq hr.ok]; exact hm)]
    have hk : known r.kind = true := (may_known hr.ok (by rw [may_eq hr.ok]; exact hm)).1
    obtain ⟨k, fl, fd, ps, sz, p, d, t⟩ := r
    obtain ⟨fl, rfl⟩ := Int.eq_ofNat_of_zero_le hr.ok.flags.1
    obtain ⟨fd, rfl⟩ := Int.eq_ofNat_of_zero_le hr.ok.fd.1
    obtain ⟨ps, rfl⟩ := Int.eq_ofNat_of_zero_le hr.ok.pos.1
    obtain ⟨sz, rfl⟩ := Int.eq_ofNat_of_zero_le hr.ok.size.1
    rcases known_cases hk with rfl | rfl | rfl | rfl | rfl | rfl | rfl | rfl | rfl | rfl | rfl | rfl | rfl
    · exact rput_1 fl fd ps sz p d t hr hm w
    · exact rput_2 fl fd ps sz p d t hr hm w
    · exact rput_3 fl fd ps sz p d t hr hm w
    · exact rput_4 fl fd ps sz p d t hr hm w
    · exact rput_5 fl fd ps sz p d t hr hm w
    · exact rput_6 fl fd ps sz p d t hr hm w
    · exact rput_7 fl fd ps sz p d t hr hm w
    · exact rput_8 fl fd ps sz p d t hr hm w
    · exact rput_9 fl fd ps sz p d t hr hm w
    · exact rput_10 fl fd ps sz p d t hr hm w
    · exact rput_11 fl fd ps sz p d t hr hm w
    · exact rput_12 fl fd ps sz p d t hr hm w
    · exact rput_13 fl fd ps sz p d t hr hm w
  · have hm' : mayR r = false := by simpa using hm
    rw [show putQ r = [] from if_neg (by rw [may_eq hr.ok, hm']; decide)]
    exact rput_no r hm' w

end Go.Proofs.Ytphcdndohdnolaa
