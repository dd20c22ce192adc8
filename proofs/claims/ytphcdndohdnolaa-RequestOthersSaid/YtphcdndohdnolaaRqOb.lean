/-
  THE WALK OF RequestOthers.
-/
import Derived.Deep.DeepCutAuto
import Derived.Outline
import Derived.Test.YtphcdndohdnolaaRqOa
import Derived.Test.YtphcdndohdnolaaRqQ
namespace Go.Proofs.Ytphcdndohdnolaa
open Go.RowKit Go.Shelf
set_option linter.unusedVariables false

/-- The cells of a request; of the six ones. -/
def rqC8 (q : Rq) : List Value := [.int .u8 q.kind, .int .u8 q.flags, .int .u64 q.fd, .int .u64 q.pos, .int .u64 q.size, .string q.path, .string q.dst, .string q.data]
def allL (r : Rq) : List Value := rqC8 (varQ r 0) ++ (rqC8 (varQ r 1) ++ (rqC8 (varQ r 2) ++ (rqC8 (varQ r 3) ++ (rqC8 (varQ r 4) ++ rqC8 (varQ r 5)))))
def AllAt (w : World) (b : Nat) (r : Rq) : Prop := w.heap[b]? = some (.cells (allL r).toArray 24 (0, 0))
structure RqIn (w : World) (b o : Nat) (r : Rq) : Prop where
  c0 : w.cell? ⟨b, o, none⟩ = some (.int .u8 r.kind)
  c1 : w.cell? ⟨b, o + 1, none⟩ = some (.int .u8 r.flags)
  c2 : w.cell? ⟨b, o + 2, none⟩ = some (.int .u64 r.fd)
  c3 : w.cell? ⟨b, o + 3, none⟩ = some (.int .u64 r.pos)
  c4 : w.cell? ⟨b, o + 4, none⟩ = some (.int .u64 r.size)
  c5 : w.cell? ⟨b, o + 5, none⟩ = some (.string r.path)
  c6 : w.cell? ⟨b, o + 6, none⟩ = some (.string r.dst)
  c7 : w.cell? ⟨b, o + 7, none⟩ = some (.string r.data)
theorem AllAt.get {w : World} {b : Nat} {r : Rq} (h : AllAt w b r) {k : Nat} (hk : k < 6) : RqIn w b (k * 8) (varQ r k) := by
  have e : ∀ j, w.cell? ⟨b, j, none⟩ = (allL r)[j]? := fun j => by rw [cell_of_row w b j _ _ _ h]; simp
  match k, hk with
  | 0, _ => exact ⟨e 0, e 1, e 2, e 3, e 4, e 5, e 6, e 7⟩
  | 1, _ => exact ⟨e 8, e 9, e 10, e 11, e 12, e 13, e 14, e 15⟩
  | 2, _ => exact ⟨e 16, e 17, e 18, e 19, e 20, e 21, e 22, e 23⟩
  | 3, _ => exact ⟨e 24, e 25, e 26, e 27, e 28, e 29, e 30, e 31⟩
  | 4, _ => exact ⟨e 32, e 33, e 34, e 35, e 36, e 37, e 38, e 39⟩
  | 5, _ => exact ⟨e 40, e 41, e 42, e 43, e 44, e 45, e 46, e 47⟩
theorem RqAt.of_block {w w' : World} {b : Nat} {r : Rq} (h : RqAt w b r) (hb : w'.heap[b]? = w.heap[b]?) : RqAt w' b r :=
  ⟨(World.cell?_of_block (w := w) (a := ⟨b, 0, none⟩) hb).trans h.c0, (World.cell?_of_block (w := w) (a := ⟨b, 1, none⟩) hb).trans h.c1, (World.cell?_of_block (w := w) (a := ⟨b, 2, none⟩) hb).trans h.c2, (World.cell?_of_block (w := w) (a := ⟨b, 3, none⟩) hb).trans h.c3, (World.cell?_of_block (w := w) (a := ⟨b, 4, none⟩) hb).trans h.c4, (World.cell?_of_block (w := w) (a := ⟨b, 5, none⟩) hb).trans h.c5, (World.cell?_of_block (w := w) (a := ⟨b, 6, none⟩) hb).trans h.c6, (World.cell?_of_block (w := w) (a := ⟨b, 7, none⟩) hb).trans h.c7, fun k => (World.frozen?_of_block (w := w) (a := ⟨b, k, none⟩) hb).trans (h.f k)⟩
/-- What is not the row's block stays when the row grows. -/
theorem grown_block {w w' : World} {base : Nat} {v : Value} {n : Nat} {xs : List Value} {tmp : Obj} (hg : (w.alloc tmp).grownBy w' v.ownBlock) (hown : w.ownsRow base 25 1 v n xs) {b : Nat} (hb : b < w.heap.size)
    (hn : b < base ∨ ∀ cur, w.heap[b]? ≠ some (.cells cur 25 (0, 0))) : w'.heap[b]? = w.heap[b]? := by
  refine (hg.block b (by simp; omega) (fun ej => ?_)).trans (Below.heap_alloc _ _ _ hb)
  rcases hown.2 with ⟨rfl, _⟩ | ⟨g, cap, cur, rfl, hbg, hh, _⟩
  · simp [Value.ownBlock] at ej
  · obtain rfl : g = b := by simpa [Value.ownBlock] using ej.symm
    rcases hn with hn | hn
    · omega
    · exact hn _ hh
theorem AllAt.not_row {w : World} {b : Nat} {r : Rq} (h : AllAt w b r) (cur : Array Value) : w.heap[b]? ≠ some (.cells cur 25 (0, 0)) := by
  unfold AllAt at h
  rw [h]
  intro hh
  simp at hh
theorem info_sl8 : (Try.prog.info? 25).map (fun i => (i.zero, i.size, i.bytes)) = some (some (.slice none 0 0), 1, 24) := by kernel_rfl

set_option maxRecDepth 100000 in
set_option maxHeartbeats 8000000 in
theorem walk_others (r : Rq) (hr : okRq r) (w : World) :
    Calls Try.prog 8 #[rqV r] w fun e w' => e = .returned (.bool true) ∧ Below w.heap.size w w' := by
  have R0 := RqAt.new w r
  have hn0 : Nw w (w.alloc (.cells #[.int .u8 r.kind, .int .u8 r.flags, .int .u64 r.fd, .int .u64 r.pos, .int .u64 r.size, .string r.path, .string r.dst, .string r.data] 24)) := Nw.refl.alloc _
  have HF := Lib.hid (fun W => few_any r hr.path hr.dst hr.data W)
  obtain ⟨few, hfew⟩ : ∃ few, decide ((r.path.size : Int) + r.dst.size + r.data.size ≤ 2048) = few := ⟨_, rfl⟩
  rw [hfew] at HF
  have HFW := Lib.hid hfew
  have HR := Lib.hid hr
  unfold rqV at HF ⊢
  clear hfew hr
  go_enter Try.func8, Try.ntmps8
  go_upto_region 1 with fail
  generalize w.alloc (.cells #[.int .u8 r.kind, .int .u8 r.flags, .int .u64 r.fd, .int .u64 r.pos, .int .u64 r.size, .string r.path, .string r.dst, .string r.data] 24) = W1 at R0 hn0 ⊢
  have HR0 := Lib.hid R0
  have HN0 := Lib.hid hn0
  obtain ⟨c0, c1, c2, c3, c4, c5, c6, c7, _⟩ := R0
  clear hn0
  go_wp2_with fail
  refine (HF.out _).mono ?_
  rintro e w2 ⟨rfl, hN2⟩
  have HN2 := Lib.hid (HN0.out.trans hN2)
  have HR2 := Lib.hid (HR0.out.nw hN2)
  clear c0 c1 c2 c3 c4 c5 c6 c7 hN2 HR0
  cases few with
  | false =>
    go_wp2_with fail
    refine (works_any _).mono ?_
    rintro e w3 ⟨rfl, hN3⟩
    go_wp2_with fail
    go_ret
    exact ⟨rfl, (HN2.out.trans hN3).b⟩
  | true =>
  have HS := Lib.hid (few_small HR.out (of_decide_eq_true HFW.out))
  have HMY := Lib.hid (fun W => may_any r HS.out W)
  unfold rqV at HMY
  obtain ⟨c0, c1, c2, c3, c4, c5, c6, c7, _⟩ := HR2.out
  obtain ⟨m, hm⟩ : ∃ m, mayQ r = m := ⟨_, rfl⟩
  rw [hm] at HMY
  have HM := Lib.hid hm
  clear hm
  go_wp2_with fail
  refine (HMY.out _).mono ?_
  rintro e w4 ⟨rfl, hN4⟩
  replace HN2 := Lib.hid (HN2.out.trans hN4)
  replace HR2 := Lib.hid (HR2.out.nw hN4)
  clear c0 c1 c2 c3 c4 c5 c6 c7 hN4
  cases m with
  | false =>
    go_wp2_with fail
    refine (works_any _).mono ?_
    rintro e w5 ⟨rfl, hN5⟩
    go_wp2_with fail
    go_ret
    exact ⟨rfl, (HN2.out.trans hN5).b⟩
  | true =>
  have HCN := Lib.hid (others_count HR.out (of_decide_eq_true HFW.out) HM.out)
  have HVS := Lib.hid (fun k => varQ_ok HR.out (of_decide_eq_true HFW.out) k)
  obtain ⟨c0, c1, c2, c3, c4, c5, c6, c7, _⟩ := HR2.out
  go_upto_region 4 with fail
  have hn := HN2.out.alloc (.cells #[] 25)
  have hr4 := HR2.out.nw (Nw.refl.alloc (.cells #[] 25))
  have HO : Hid ((w4.alloc (.cells #[] 25)).heap[w4.heap.size]? = some (.cells #[] 25 (0, 0))) := heap_alloc_new _ _
  have HW4 := Lib.hid hn.b.size
  have HL4 := Lib.hid HR2.out.lt
  generalize w4.alloc (.cells #[] 25) = wa at hn hr4 HO HW4 ⊢
  generalize w4.heap.size = gs at HO HL4 ⊢
  have HN := Lib.hid hn
  have HR4 := Lib.hid hr4
  clear hn hr4 c0 c1 c2 c3 c4 c5 c6 c7 HN2 HR2 HN0
  have HOK := HR
  clear HR
  have HR := HR4
  clear HR4
  have hs1 : r.path.size ≤ 2048 := by have := of_decide_eq_true HFW.out; omega
  have hs2 : r.dst.size ≤ 2048 := by have := of_decide_eq_true HFW.out; omega
  have hs3 : r.data.size ≤ 2048 := by have := of_decide_eq_true HFW.out; omega
  -- STEPS
  obtain ⟨c0, c1, c2, c3, c4, c5, c6, c7, _⟩ := HR.out
  go_upto_region 5 with fail
  have hq := RqAt.new wa r
  have hn := (Nw.refl (w := wa)).alloc (.cells #[.int .u8 r.kind, .int .u8 r.flags, .int .u64 r.fd, .int .u64 r.pos, .int .u64 r.size, .string r.path, .string r.dst, .string r.data] 24)
  generalize wa.alloc (.cells #[.int .u8 r.kind, .int .u8 r.flags, .int .u64 r.fd, .int .u64 r.pos, .int .u64 r.size, .string r.path, .string r.dst, .string r.data] 24) = wb at hq hn ⊢
  have HL := Lib.hid (Nat.ne_of_lt HR.out.lt)
  have HK := Lib.hid (Nat.ne_of_lt (Array.getElem?_eq_some_iff.1 HO.out).1)
  have HB := Lib.hid HN.out.b.size
  replace HN := Lib.hid (HN.out.trans hn)
  replace HR := Lib.hid (HR.out.nw hn)
  replace HO := Lib.hid ((hn.b.block gs (Array.getElem?_eq_some_iff.1 HO.out).1).trans HO.out)
  clear hn c0 c1 c2 c3 c4 c5 c6 c7
  generalize wa.heap.size = b0 at hq HL HK HB ⊢
  have HQ := Lib.hid hq
  obtain ⟨c0, c1, c2, c3, c4, c5, c6, c7, fz⟩ := hq
  have fz0 := fz 2
  go_upto_region 6 with fail
  clear c0 c1 c2 c3 c4 c5 c6 c7 fz fz0
  have hs : RqAt (wb.setCell ⟨b0, 2, none⟩ (.int .u64 (IntKind.u64.wrap (r.fd + 1)))) b0 (varQ r 0) := by have := HQ.out.set2 (IntKind.u64.wrap (r.fd + 1)); rw [IntKind.wrap_u64] at this ⊢; exact this
  have hu := (Up.refl b0 wb).set 2 (.int .u64 (IntKind.u64.wrap (r.fd + 1)))
  have hn : Nw w (wb.setCell ⟨b0, 2, none⟩ (.int .u64 (IntKind.u64.wrap (r.fd + 1)))) := ⟨HN.out.b.setCell (p := ⟨b0, 2, none⟩) HB.out _⟩
  replace HN := Lib.hid hn
  replace HR := Lib.hid (HR.out.up hu HL.out)
  replace HO := Lib.hid ((hu.block gs (Array.getElem?_eq_some_iff.1 HO.out).1 HK.out).trans HO.out)
  have HQ0 := Lib.hid hs
  clear hn hs hu HL HK HB HQ
  generalize wb.setCell ⟨b0, 2, none⟩ (.int .u64 (IntKind.u64.wrap (r.fd + 1))) = wc at HN HR HO HQ0 ⊢
  rename World => wa
  obtain ⟨c0, c1, c2, c3, c4, c5, c6, c7, _⟩ := HR.out
  go_upto_region 7 with fail
  have hq := RqAt.new wa r
  have hn := (Nw.refl (w := wa)).alloc (.cells #[.int .u8 r.kind, .int .u8 r.flags, .int .u64 r.fd, .int .u64 r.pos, .int .u64 r.size, .string r.path, .string r.dst, .string r.data] 24)
  generalize wa.alloc (.cells #[.int .u8 r.kind, .int .u8 r.flags, .int .u64 r.fd, .int .u64 r.pos, .int .u64 r.size, .string r.path, .string r.dst, .string r.data] 24) = wb at hq hn ⊢
  have HL := Lib.hid (Nat.ne_of_lt HR.out.lt)
  have HK := Lib.hid (Nat.ne_of_lt (Array.getElem?_eq_some_iff.1 HO.out).1)
  have HB := Lib.hid HN.out.b.size
  have HE0 := Lib.hid (Nat.ne_of_lt HQ0.out.lt)
  replace HN := Lib.hid (HN.out.trans hn)
  replace HR := Lib.hid (HR.out.nw hn)
  replace HO := Lib.hid ((hn.b.block gs (Array.getElem?_eq_some_iff.1 HO.out).1).trans HO.out)
  replace HQ0 := Lib.hid (HQ0.out.nw hn)
  clear hn c0 c1 c2 c3 c4 c5 c6 c7
  generalize wa.heap.size = b1 at hq HL HK HB HE0 ⊢
  have HQ := Lib.hid hq
  obtain ⟨c0, c1, c2, c3, c4, c5, c6, c7, fz⟩ := hq
  have fz0 := fz 3
  go_upto_region 8 with fail
  clear c0 c1 c2 c3 c4 c5 c6 c7 fz fz0
  have hs : RqAt (wb.setCell ⟨b1, 3, none⟩ (.int .u64 (IntKind.u64.wrap (r.pos + 1)))) b1 (varQ r 1) := by have := HQ.out.set3 (IntKind.u64.wrap (r.pos + 1)); rw [IntKind.wrap_u64] at this ⊢; exact this
  have hu := (Up.refl b1 wb).set 3 (.int .u64 (IntKind.u64.wrap (r.pos + 1)))
  have hn : Nw w (wb.setCell ⟨b1, 3, none⟩ (.int .u64 (IntKind.u64.wrap (r.pos + 1)))) := ⟨HN.out.b.setCell (p := ⟨b1, 3, none⟩) HB.out _⟩
  replace HN := Lib.hid hn
  replace HR := Lib.hid (HR.out.up hu HL.out)
  replace HO := Lib.hid ((hu.block gs (Array.getElem?_eq_some_iff.1 HO.out).1 HK.out).trans HO.out)
  replace HQ0 := Lib.hid (HQ0.out.up hu HE0.out)
  have HQ1 := Lib.hid hs
  clear hn hs hu HL HK HB HQ HE0
  generalize wb.setCell ⟨b1, 3, none⟩ (.int .u64 (IntKind.u64.wrap (r.pos + 1))) = wc at HN HR HO HQ0 HQ1 ⊢
  rename World => wa
  obtain ⟨c0, c1, c2, c3, c4, c5, c6, c7, _⟩ := HR.out
  go_upto_region 9 with fail
  have hq := RqAt.new wa r
  have hn := (Nw.refl (w := wa)).alloc (.cells #[.int .u8 r.kind, .int .u8 r.flags, .int .u64 r.fd, .int .u64 r.pos, .int .u64 r.size, .string r.path, .string r.dst, .string r.data] 24)
  generalize wa.alloc (.cells #[.int .u8 r.kind, .int .u8 r.flags, .int .u64 r.fd, .int .u64 r.pos, .int .u64 r.size, .string r.path, .string r.dst, .string r.data] 24) = wb at hq hn ⊢
  have HL := Lib.hid (Nat.ne_of_lt HR.out.lt)
  have HK := Lib.hid (Nat.ne_of_lt (Array.getElem?_eq_some_iff.1 HO.out).1)
  have HB := Lib.hid HN.out.b.size
  have HE0 := Lib.hid (Nat.ne_of_lt HQ0.out.lt)
  have HE1 := Lib.hid (Nat.ne_of_lt HQ1.out.lt)
  replace HN := Lib.hid (HN.out.trans hn)
  replace HR := Lib.hid (HR.out.nw hn)
  replace HO := Lib.hid ((hn.b.block gs (Array.getElem?_eq_some_iff.1 HO.out).1).trans HO.out)
  replace HQ0 := Lib.hid (HQ0.out.nw hn)
  replace HQ1 := Lib.hid (HQ1.out.nw hn)
  clear hn c0 c1 c2 c3 c4 c5 c6 c7
  generalize wa.heap.size = b2 at hq HL HK HB HE0 HE1 ⊢
  have HQ := Lib.hid hq
  obtain ⟨c0, c1, c2, c3, c4, c5, c6, c7, fz⟩ := hq
  have fz0 := fz 4
  go_upto_region 10 with fail
  clear c0 c1 c2 c3 c4 c5 c6 c7 fz fz0
  have hs : RqAt (wb.setCell ⟨b2, 4, none⟩ (.int .u64 (IntKind.u64.wrap (r.size + 1)))) b2 (varQ r 2) := by have := HQ.out.set4 (IntKind.u64.wrap (r.size + 1)); rw [IntKind.wrap_u64] at this ⊢; exact this
  have hu := (Up.refl b2 wb).set 4 (.int .u64 (IntKind.u64.wrap (r.size + 1)))
  have hn : Nw w (wb.setCell ⟨b2, 4, none⟩ (.int .u64 (IntKind.u64.wrap (r.size + 1)))) := ⟨HN.out.b.setCell (p := ⟨b2, 4, none⟩) HB.out _⟩
  replace HN := Lib.hid hn
  replace HR := Lib.hid (HR.out.up hu HL.out)
  replace HO := Lib.hid ((hu.block gs (Array.getElem?_eq_some_iff.1 HO.out).1 HK.out).trans HO.out)
  replace HQ0 := Lib.hid (HQ0.out.up hu HE0.out)
  replace HQ1 := Lib.hid (HQ1.out.up hu HE1.out)
  have HQ2 := Lib.hid hs
  clear hn hs hu HL HK HB HQ HE0 HE1
  generalize wb.setCell ⟨b2, 4, none⟩ (.int .u64 (IntKind.u64.wrap (r.size + 1))) = wc at HN HR HO HQ0 HQ1 HQ2 ⊢
  rename World => wa
  obtain ⟨c0, c1, c2, c3, c4, c5, c6, c7, _⟩ := HR.out
  go_upto_region 11 with fail
  have hq := RqAt.new wa r
  have hn := (Nw.refl (w := wa)).alloc (.cells #[.int .u8 r.kind, .int .u8 r.flags, .int .u64 r.fd, .int .u64 r.pos, .int .u64 r.size, .string r.path, .string r.dst, .string r.data] 24)
  generalize wa.alloc (.cells #[.int .u8 r.kind, .int .u8 r.flags, .int .u64 r.fd, .int .u64 r.pos, .int .u64 r.size, .string r.path, .string r.dst, .string r.data] 24) = wb at hq hn ⊢
  have HL := Lib.hid (Nat.ne_of_lt HR.out.lt)
  have HK := Lib.hid (Nat.ne_of_lt (Array.getElem?_eq_some_iff.1 HO.out).1)
  have HB := Lib.hid HN.out.b.size
  have HE0 := Lib.hid (Nat.ne_of_lt HQ0.out.lt)
  have HE1 := Lib.hid (Nat.ne_of_lt HQ1.out.lt)
  have HE2 := Lib.hid (Nat.ne_of_lt HQ2.out.lt)
  replace HN := Lib.hid (HN.out.trans hn)
  replace HR := Lib.hid (HR.out.nw hn)
  replace HO := Lib.hid ((hn.b.block gs (Array.getElem?_eq_some_iff.1 HO.out).1).trans HO.out)
  replace HQ0 := Lib.hid (HQ0.out.nw hn)
  replace HQ1 := Lib.hid (HQ1.out.nw hn)
  replace HQ2 := Lib.hid (HQ2.out.nw hn)
  clear hn c0 c1 c2 c3 c4 c5 c6 c7
  generalize wa.heap.size = b3 at hq HL HK HB HE0 HE1 HE2 ⊢
  have HQ := Lib.hid hq
  obtain ⟨c0, c1, c2, c3, c4, c5, c6, c7, fz⟩ := hq
  have fz0 := fz 5
  go_upto_region 12 with fail
  clear c0 c1 c2 c3 c4 c5 c6 c7 fz fz0
  have hs : RqAt (wb.setCell ⟨b3, 5, none⟩ (.string (r.path ++ ⟨#[120]⟩))) b3 (varQ r 3) := HQ.out.set5 (r.path ++ ⟨#[120]⟩)
  have hu := (Up.refl b3 wb).set 5 (.string (r.path ++ ⟨#[120]⟩))
  have hn : Nw w (wb.setCell ⟨b3, 5, none⟩ (.string (r.path ++ ⟨#[120]⟩))) := ⟨HN.out.b.setCell (p := ⟨b3, 5, none⟩) HB.out _⟩
  replace HN := Lib.hid hn
  replace HR := Lib.hid (HR.out.up hu HL.out)
  replace HO := Lib.hid ((hu.block gs (Array.getElem?_eq_some_iff.1 HO.out).1 HK.out).trans HO.out)
  replace HQ0 := Lib.hid (HQ0.out.up hu HE0.out)
  replace HQ1 := Lib.hid (HQ1.out.up hu HE1.out)
  replace HQ2 := Lib.hid (HQ2.out.up hu HE2.out)
  have HQ3 := Lib.hid hs
  clear hn hs hu HL HK HB HQ HE0 HE1 HE2
  generalize wb.setCell ⟨b3, 5, none⟩ (.string (r.path ++ ⟨#[120]⟩)) = wc at HN HR HO HQ0 HQ1 HQ2 HQ3 ⊢
  rename World => wa
  obtain ⟨c0, c1, c2, c3, c4, c5, c6, c7, _⟩ := HR.out
  go_upto_region 13 with fail
  have hq := RqAt.new wa r
  have hn := (Nw.refl (w := wa)).alloc (.cells #[.int .u8 r.kind, .int .u8 r.flags, .int .u64 r.fd, .int .u64 r.pos, .int .u64 r.size, .string r.path, .string r.dst, .string r.data] 24)
  generalize wa.alloc (.cells #[.int .u8 r.kind, .int .u8 r.flags, .int .u64 r.fd, .int .u64 r.pos, .int .u64 r.size, .string r.path, .string r.dst, .string r.data] 24) = wb at hq hn ⊢
  have HL := Lib.hid (Nat.ne_of_lt HR.out.lt)
  have HK := Lib.hid (Nat.ne_of_lt (Array.getElem?_eq_some_iff.1 HO.out).1)
  have HB := Lib.hid HN.out.b.size
  have HE0 := Lib.hid (Nat.ne_of_lt HQ0.out.lt)
  have HE1 := Lib.hid (Nat.ne_of_lt HQ1.out.lt)
  have HE2 := Lib.hid (Nat.ne_of_lt HQ2.out.lt)
  have HE3 := Lib.hid (Nat.ne_of_lt HQ3.out.lt)
  replace HN := Lib.hid (HN.out.trans hn)
  replace HR := Lib.hid (HR.out.nw hn)
  replace HO := Lib.hid ((hn.b.block gs (Array.getElem?_eq_some_iff.1 HO.out).1).trans HO.out)
  replace HQ0 := Lib.hid (HQ0.out.nw hn)
  replace HQ1 := Lib.hid (HQ1.out.nw hn)
  replace HQ2 := Lib.hid (HQ2.out.nw hn)
  replace HQ3 := Lib.hid (HQ3.out.nw hn)
  clear hn c0 c1 c2 c3 c4 c5 c6 c7
  generalize wa.heap.size = b4 at hq HL HK HB HE0 HE1 HE2 HE3 ⊢
  have HQ := Lib.hid hq
  obtain ⟨c0, c1, c2, c3, c4, c5, c6, c7, fz⟩ := hq
  have fz0 := fz 6
  go_upto_region 14 with fail
  clear c0 c1 c2 c3 c4 c5 c6 c7 fz fz0
  have hs : RqAt (wb.setCell ⟨b4, 6, none⟩ (.string (r.dst ++ ⟨#[120]⟩))) b4 (varQ r 4) := HQ.out.set6 (r.dst ++ ⟨#[120]⟩)
  have hu := (Up.refl b4 wb).set 6 (.string (r.dst ++ ⟨#[120]⟩))
  have hn : Nw w (wb.setCell ⟨b4, 6, none⟩ (.string (r.dst ++ ⟨#[120]⟩))) := ⟨HN.out.b.setCell (p := ⟨b4, 6, none⟩) HB.out _⟩
  replace HN := Lib.hid hn
  replace HR := Lib.hid (HR.out.up hu HL.out)
  replace HO := Lib.hid ((hu.block gs (Array.getElem?_eq_some_iff.1 HO.out).1 HK.out).trans HO.out)
  replace HQ0 := Lib.hid (HQ0.out.up hu HE0.out)
  replace HQ1 := Lib.hid (HQ1.out.up hu HE1.out)
  replace HQ2 := Lib.hid (HQ2.out.up hu HE2.out)
  replace HQ3 := Lib.hid (HQ3.out.up hu HE3.out)
  have HQ4 := Lib.hid hs
  clear hn hs hu HL HK HB HQ HE0 HE1 HE2 HE3
  generalize wb.setCell ⟨b4, 6, none⟩ (.string (r.dst ++ ⟨#[120]⟩)) = wc at HN HR HO HQ0 HQ1 HQ2 HQ3 HQ4 ⊢
  rename World => wa
  obtain ⟨c0, c1, c2, c3, c4, c5, c6, c7, _⟩ := HR.out
  go_upto_region 15 with fail
  have hq := RqAt.new wa r
  have hn := (Nw.refl (w := wa)).alloc (.cells #[.int .u8 r.kind, .int .u8 r.flags, .int .u64 r.fd, .int .u64 r.pos, .int .u64 r.size, .string r.path, .string r.dst, .string r.data] 24)
  generalize wa.alloc (.cells #[.int .u8 r.kind, .int .u8 r.flags, .int .u64 r.fd, .int .u64 r.pos, .int .u64 r.size, .string r.path, .string r.dst, .string r.data] 24) = wb at hq hn ⊢
  have HL := Lib.hid (Nat.ne_of_lt HR.out.lt)
  have HK := Lib.hid (Nat.ne_of_lt (Array.getElem?_eq_some_iff.1 HO.out).1)
  have HB := Lib.hid HN.out.b.size
  have HE0 := Lib.hid (Nat.ne_of_lt HQ0.out.lt)
  have HE1 := Lib.hid (Nat.ne_of_lt HQ1.out.lt)
  have HE2 := Lib.hid (Nat.ne_of_lt HQ2.out.lt)
  have HE3 := Lib.hid (Nat.ne_of_lt HQ3.out.lt)
  have HE4 := Lib.hid (Nat.ne_of_lt HQ4.out.lt)
  replace HN := Lib.hid (HN.out.trans hn)
  replace HR := Lib.hid (HR.out.nw hn)
  replace HO := Lib.hid ((hn.b.block gs (Array.getElem?_eq_some_iff.1 HO.out).1).trans HO.out)
  replace HQ0 := Lib.hid (HQ0.out.nw hn)
  replace HQ1 := Lib.hid (HQ1.out.nw hn)
  replace HQ2 := Lib.hid (HQ2.out.nw hn)
  replace HQ3 := Lib.hid (HQ3.out.nw hn)
  replace HQ4 := Lib.hid (HQ4.out.nw hn)
  clear hn c0 c1 c2 c3 c4 c5 c6 c7
  generalize wa.heap.size = b5 at hq HL HK HB HE0 HE1 HE2 HE3 HE4 ⊢
  have HQ := Lib.hid hq
  obtain ⟨c0, c1, c2, c3, c4, c5, c6, c7, fz⟩ := hq
  have fz0 := fz 7
  go_upto_region 16 with fail
  clear c0 c1 c2 c3 c4 c5 c6 c7 fz fz0
  have hs : RqAt (wb.setCell ⟨b5, 7, none⟩ (.string (r.data ++ ⟨#[120]⟩))) b5 (varQ r 5) := HQ.out.set7 (r.data ++ ⟨#[120]⟩)
  have hu := (Up.refl b5 wb).set 7 (.string (r.data ++ ⟨#[120]⟩))
  have hn : Nw w (wb.setCell ⟨b5, 7, none⟩ (.string (r.data ++ ⟨#[120]⟩))) := ⟨HN.out.b.setCell (p := ⟨b5, 7, none⟩) HB.out _⟩
  replace HN := Lib.hid hn
  replace HR := Lib.hid (HR.out.up hu HL.out)
  replace HO := Lib.hid ((hu.block gs (Array.getElem?_eq_some_iff.1 HO.out).1 HK.out).trans HO.out)
  replace HQ0 := Lib.hid (HQ0.out.up hu HE0.out)
  replace HQ1 := Lib.hid (HQ1.out.up hu HE1.out)
  replace HQ2 := Lib.hid (HQ2.out.up hu HE2.out)
  replace HQ3 := Lib.hid (HQ3.out.up hu HE3.out)
  replace HQ4 := Lib.hid (HQ4.out.up hu HE4.out)
  have HQ5 := Lib.hid hs
  clear hn hs hu HL HK HB HQ HE0 HE1 HE2 HE3 HE4
  generalize wb.setCell ⟨b5, 7, none⟩ (.string (r.data ++ ⟨#[120]⟩)) = wc at HN HR HO HQ0 HQ1 HQ2 HQ3 HQ4 HQ5 ⊢
  rename World => wa
  -- LOOP
  obtain ⟨c0, c1, c2, c3, c4, c5, c6, c7, _⟩ := HQ0.out
  obtain ⟨d0, d1, d2, d3, d4, d5, d6, d7, _⟩ := HQ1.out
  obtain ⟨e0, e1, e2, e3, e4, e5, e6, e7, _⟩ := HQ2.out
  obtain ⟨f0, f1, f2, f3, f4, f5, f6, f7, _⟩ := HQ3.out
  obtain ⟨g0, g1, g2, g3, g4, g5, g6, g7, _⟩ := HQ4.out
  obtain ⟨h0, h1, h2, h3, h4, h5, h6, h7, _⟩ := HQ5.out
  go_upto_region 17 with fail
  clear c0 c1 c2 c3 c4 c5 c6 c7 d0 d1 d2 d3 d4 d5 d6 d7 e0 e1 e2 e3 e4 e5 e6 e7 f0 f1 f2 f3 f4 f5 f6 f7 g0 g1 g2 g3 g4 g5 g6 g7 h0 h1 h2 h3 h4 h5 h6 h7 HQ0 HQ1 HQ2 HQ3 HQ4 HQ5 HMY HM HF HS
  change Code.wp _ _ _ _ (wa.alloc (.cells (allL r).toArray 24))
  have hall : AllAt (wa.alloc (.cells (allL r).toArray 24)) wa.heap.size r := heap_alloc_new _ _
  have hnx : Nw wa (wa.alloc (.cells (allL r).toArray 24)) := Nw.refl.alloc _
  have HGW := Lib.hid (Nat.le_of_lt (Array.getElem?_eq_some_iff.1 HO.out).1)
  generalize wa.alloc (.cells (allL r).toArray 24) = wx at hall hnx ⊢
  generalize wa.heap.size = ball at hall ⊢
  replace HN := Lib.hid (HN.out.trans hnx)
  replace HR := Lib.hid (HR.out.nw hnx)
  replace HGW := Lib.hid (Nat.le_trans HGW.out hnx.b.size)
  have HOWN : Hid (wx.ownsRow gs 25 1 (.slice (some ⟨gs, 0, none⟩) 0 0) 0 []) := ⟨rfl, .inr ⟨gs, 0, #[], rfl, Nat.le_refl _, (hnx.b.block gs (Array.getElem?_eq_some_iff.1 HO.out).1).trans HO.out, Nat.le_refl _, Nat.zero_le _, rfl, rfl⟩⟩
  have HALL := Lib.hid hall
  clear hall hnx HO HW4
  obtain ⟨i0, hi, hz0, hz1, hz2⟩ := info_parts8 info_sl8
  go_wp2_with fail
  go_loopw [3, 11] (fun v j wr => ∃ k : Nat, ∃ xs, k ≤ 6 ∧ j = .int .i64 k ∧ wr.ownsRow gs 25 1 v (cntV r k) xs ∧ AllAt wr ball r ∧ RqAt wr w.heap.size r ∧ Nw w wr ∧ gs ≤ wr.heap.size) (fun _ j _ => 6 - (intOf j).toNat)
  case atStart => exact ⟨0, [], Nat.zero_le _, rfl, HOWN.out, HALL.out, HR.out, HN.out, HGW.out⟩
  case round =>
    clear HOWN HALL HR HN HGW
    obtain ⟨k, xs, hk, rfl, hown, hall, hbox, hN, hgs⟩ := hrel
    have HOWN := Lib.hid hown
    have HALL := Lib.hid hall
    have HBOX := Lib.hid hbox
    have HN := Lib.hid hN
    have HGS := Lib.hid hgs
    clear hown hbox hN hgs
    by_cases hlt : k < 6
    · obtain ⟨c0, c1, c2, c3, c4, c5, c6, c7⟩ := hall.get hlt
      have HPQ := Lib.hid (fun W => putq_any (varQ r k) (HVS.out k) W)
      have HMQ := Lib.hid (fun W => may_any (varQ r k) (HVS.out k) W)
      have HPL := Lib.hid (put_len (varQ r k))
      unfold rqV at HPQ HMQ
      clear hall
      go_wp2_with fail
      refine (HPQ.out _).mono ?_
      intro e w8 h8
      obtain ⟨a8, k8, rfl, hI8, hN8, hc8⟩ := OwnR.slice h8
      replace HN := Lib.hid (HN.out.trans hN8)
      have HALL8 := Lib.hid (show AllAt w8 ball r from (hN8.b.block ball (Array.getElem?_eq_some_iff.1 HALL.out).1).trans HALL.out)
      have HBOX8 := Lib.hid (HBOX.out.nw hN8)
      have HOWN8 := Lib.hid (own_below hN8.b HOWN.out)
      have HGS8 := Lib.hid (Nat.le_trans HGS.out hN8.b.size)
      clear c0 c1 c2 c3 c4 c5 c6 c7 HALL HBOX HOWN HGS hN8 hI8 h8 hc8
      obtain ⟨c0, c1, c2, c3, c4, c5, c6, c7⟩ := HALL8.out.get hlt
      have hpl := HPL.out
      obtain ⟨n8, hn8⟩ : ∃ n, (putQ (varQ r k)).length = n := ⟨_, rfl⟩
      rw [hn8] at hpl ⊢
      have HCS := Lib.hid (show cntV r (k + 1) = cntV r k + if mayQ (varQ r k) = true then 1 else 0 from rfl)
      obtain ⟨m, hm⟩ : ∃ m, mayQ (varQ r k) = m := ⟨_, rfl⟩
      rw [hm] at hpl HMQ HCS
      have HN8 := Lib.hid hn8
      clear hm hn8
      go_wp2_with fail
      refine (HMQ.out _).mono ?_
      rintro e w9 ⟨rfl, hN9⟩
      replace HN := Lib.hid (HN.out.trans hN9)
      have HALL9 := Lib.hid (show AllAt w9 ball r from (hN9.b.block ball (Array.getElem?_eq_some_iff.1 HALL8.out).1).trans HALL8.out)
      have HBOX9 := Lib.hid (HBOX8.out.nw hN9)
      have HOWN9 := Lib.hid (own_below hN9.b HOWN8.out)
      have HGS9 := Lib.hid (Nat.le_trans HGS8.out hN9.b.size)
      clear c0 c1 c2 c3 c4 c5 c6 c7 HALL8 HBOX8 HOWN8 HGS8 hN9
      cases m with
      | false =>
        have hn0 : n8 = 0 := by
          have := of_decide_eq_false hpl
          omega
        subst hn0
        go_wp2_with fail
        go_roundw
        case rel => exact ⟨k + 1, xs, by omega, by go_num, by rw [HCS.out]; simpa using HOWN9.out, HALL9.out, HBOX9.out, HN.out, HGS9.out⟩
        case measure => simp [intOf]; omega
      | true =>
        have hn0 : 0 < n8 := by
          have := of_decide_eq_true hpl
          omega
        have hcl := cntV_le r k
        generalize cntV r k = cv at HOWN9 HCS hcl
        obtain ⟨aS, cS, hvS⟩ := own_slice HOWN9.out
        subst hvS
        go_upto_region 24 with fail
        go_wp2_with ((at_builtin; go_loud (refine wpList_append_own _ rfl (.tmp 83) (.tmp 85) 39 rfl gs 25 i0 (.slice none 0 0) 1 24 Try.underlying39 hi hz0 hz1 hz2 rfl (by decide) _ cv xs rfl (HOWN9.out.alloc _) ⟨w9.heap.size, 0, none⟩ 1 1 [.slice a8 n8 k8] rfl rfl (cell_one_new _ _ _) (by simp [Value.oneCell']) (by unfold maxLen; omega) (by omega) (Nat.le_trans HGS9.out (by simp)) ?_); intro vA wA hownA hgrowA _; have HGA := Lib.hid hgrowA; have HOA := Lib.hid hownA; clear hownA hgrowA))
        have hgrowA : (w9.alloc (.cells #[.slice a8 n8 k8] 25)).grownBy wA (Value.slice aS cv cS).ownBlock := HGA.out
        have hAllA : AllAt wA ball r := (grown_block hgrowA HOWN9.out (Array.getElem?_eq_some_iff.1 HALL9.out).1 (.inr HALL9.out.not_row)).trans HALL9.out
        have hBoxA : RqAt wA w.heap.size r := HBOX9.out.of_block (grown_block hgrowA HOWN9.out HBOX9.out.lt (.inl HL4.out))
        have hNA : Nw w wA := ⟨(HN.out.b.alloc HN.out.b.size _).grown hgrowA (Nat.le_trans HN.out.b.size (by simp)) (fun k e => by
          rcases HOWN9.out.2 with ⟨h, _⟩ | ⟨g, cap, cur, h, hbg, hh, _⟩
          · rw [h] at e
            simp [Value.ownBlock] at e
          · rw [h] at e
            obtain rfl : g = k := by simpa [Value.ownBlock] using e
            exact Nat.le_trans (Nat.le_of_lt HL4.out) hbg)⟩
        have hgA : gs ≤ wA.heap.size := Nat.le_trans HGS9.out (Nat.le_trans (by simp) hgrowA.size)
        go_roundw
        case rel => exact ⟨k + 1, _, by omega, by go_num, by rw [HCS.out]; exact HOA.out, hAllA, hBoxA, hNA, hgA⟩
        case measure => simp [intOf]; omega
    · obtain rfl : k = 6 := by omega
      clear hlt hk
      have hcn := HCN.out
      generalize cntV r 6 = n6 at HOWN hcn
      obtain ⟨a6, k6, hv6⟩ := own_slice HOWN.out
      subst hv6
      clear hall
      obtain ⟨c0, c1, c2, c3, c4, c5, c6, c7, _⟩ := HBOX.out
      obtain ⟨n2, q2, q3, q5, q6⟩ := hcn
      clear HCN
      rcases (show r.kind = 2 ∨ r.kind = 3 ∨ r.kind = 5 ∨ r.kind = 6 ∨ (r.kind ≠ 2 ∧ r.kind ≠ 3 ∧ r.kind ≠ 5 ∧ r.kind ≠ 6) from by omega) with h | h | h | h | ⟨z2, z3, z5, z6⟩
      · obtain rfl := q2 h
        rw [h] at c0
        clear h q2 q3 q5 q6 n2
        go_wp2_with fail
        refine (works_any _).mono ?_
        rintro e w7 ⟨rfl, hN7⟩
        go_wp2_with fail
        go_ret
        exact ⟨rfl, (HN.out.trans hN7).b⟩
      · obtain rfl := q3 h
        rw [h] at c0
        clear h q2 q3 q5 q6 n2
        go_wp2_with fail
        refine (works_any _).mono ?_
        rintro e w7 ⟨rfl, hN7⟩
        go_wp2_with fail
        go_ret
        exact ⟨rfl, (HN.out.trans hN7).b⟩
      · obtain rfl := q5 h
        rw [h] at c0
        clear h q2 q3 q5 q6 n2
        go_wp2_with fail
        refine (works_any _).mono ?_
        rintro e w7 ⟨rfl, hN7⟩
        go_wp2_with fail
        go_ret
        exact ⟨rfl, (HN.out.trans hN7).b⟩
      · obtain rfl := q6 h
        rw [h] at c0
        clear h q2 q3 q5 q6 n2
        go_wp2_with fail
        refine (works_any _).mono ?_
        rintro e w7 ⟨rfl, hN7⟩
        go_wp2_with fail
        go_ret
        exact ⟨rfl, (HN.out.trans hN7).b⟩
      · clear q2 q3 q5 q6
        generalize r.kind = rk at c0 z2 z3 z5 z6
        go_wp2_with fail
        refine (works_any _).mono ?_
        rintro e w7 ⟨rfl, hN7⟩
        go_wp2_with fail
        go_ret
        exact ⟨rfl, (HN.out.trans hN7).b⟩

end Go.Proofs.Ytphcdndohdnolaa
