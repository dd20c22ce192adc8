/-
  RUNS: the stores of some writes.
-/
import Derived.Test.YtkopfnldgnkkoaaCmA
import Derived.Test.YtkopfnldgnkkoaaRdH
namespace Go.Proofs.Ytkopfnldgnkkoaa
open Go.RowKit Go.Shelf
set_option linter.unusedVariables false

/-- The stores of writes. -/
def storeL (p : Int) (l : List Wr) : List St := l.map fun x => ⟨p, .store x.1 x.2⟩
theorem storeL_len (p : Int) (l : List Wr) : (storeL p l).length = l.length := by simp [storeL]
theorem storeL_take {p : Int} {l : List Wr} {k : Nat} (h : k < l.length) : storeL p (l.take (k + 1)) = storeL p (l.take k) ++ [⟨p, .store l[k].1 l[k].2⟩] := by
  unfold storeL
  rw [List.take_succ_eq_append_getElem h, List.map_append]; rfl

set_option maxRecDepth 100000 in
set_option maxHeartbeats 4000000 in
theorem stores_any (r d : Nat) (g : G) (area : Int) (L : List St) (a : Option Addr) (p : Int) (la : Option Addr) (n lc : Nat) (l : List Wr) (hl : l.length = n) (hL : L.length + n ≤ 100000) (w : World) (h : RunAt w r d g area L a)
    (hP : ∀ W', UpO (OwnR9 r a) w W' → Pairs .i64 .u64 W'.heap.size W' la l) :
    Calls Try.prog 71 #[.pointer (some ⟨r, 0, none⟩), .int .u8 p, .slice la n lc] w (fun e w' => (∃ u, e = .returned u) ∧ ∃ a', RunM w r d g area a (L ++ storeL p l) a' w') := by
  have HL := Lib.hid hl
  have HP := Lib.hid hP
  have hN0 := (Nw.refl (w := w)).alloc (.cells #[.pointer (some ⟨r, 0, none⟩)] 32)
  have HM := Lib.hid ((RunM.refl h).nw hN0)
  have hb := Blk.new w #[.pointer (some ⟨r, 0, none⟩)] 32
  clear h hl hP
  go_enter Try.func71, Try.ntmps71
  go_upto_region 1 with fail
  generalize w.alloc (.cells #[.pointer (some ⟨r, 0, none⟩)] 32) = w0 at *
  have HB := Lib.hid hb
  clear hb hN0
  generalize w.heap.size = bx at HB ⊢
  go_wp2_with fail
  go_loopw [10] (fun v wr => ∃ k : Nat, k ≤ n ∧ v = .int .i64 k ∧ Blk wr bx #[.pointer (some ⟨r, 0, none⟩)] 32 ∧ ∃ a', RunM w r d g area a (L ++ storeL p (l.take k)) a' wr) (fun v _ => n - (intOf v).toNat)
  case atStart => exact ⟨0, Nat.zero_le _, rfl, HB.out, a, by simpa [storeL] using HM.out⟩
  case round =>
    clear HB HM
    obtain ⟨k, hk, rfl, hb, a', hm⟩ := hrel
    have HB := Lib.hid hb
    have HM := Lib.hid hm
    clear hb hm
    by_cases hlt : k < n
    · obtain ⟨pb, po, rfl, p1, p2⟩ := Pairs.at (HP.out wr HM.out.u) (j := k) (by rw [HL.out]; exact hlt)
      have HST := Lib.hid (storeL_take (p := p) (l := l) (k := k) (by rw [HL.out]; exact hlt))
      obtain ⟨x1, hx1⟩ : ∃ x, (l[k]'(by rw [HL.out]; exact hlt)).1 = x := ⟨_, rfl⟩
      obtain ⟨x2, hx2⟩ : ∃ x, (l[k]'(by rw [HL.out]; exact hlt)).2 = x := ⟨_, rfl⟩
      rw [hx1] at p1 HST
      rw [hx2] at p2 HST
      clear hx1 hx2
      go_upto_region 4 with fail
      have hbw := Blk.new wr #[.int .i64 x1, .int .u64 x2] 41
      have hn := (Nw.refl (w := wr)).alloc (.cells #[.int .i64 x1, .int .u64 x2] 41)
      clear p1 p2
      generalize wr.alloc (.cells #[.int .i64 x1, .int .u64 x2] 41) = w2 at *
      generalize wr.heap.size = bw at hbw ⊢
      have HB2 := Lib.hid (HB.out.nw hn)
      have HM2 := Lib.hid (HM.out.nw hn)
      have hcb : w2.cell? ⟨bx, 0, none⟩ = some (.pointer (some ⟨r, 0, none⟩)) := HB2.out.cell rfl
      have HPU := Lib.hid (push_any r d g area (L ++ storeL p (l.take k)) a' (by rw [List.length_append, storeL_len, List.length_take]; omega) p (.store x1 x2) (.func (.func 87) #[] #[.pointer (some ⟨bx, 0, none⟩), .pointer (some ⟨bw, 0, none⟩)]) w2 HM2.out.rr ⟨bx, bw, rfl, HB2.out, hbw⟩)
      clear hbw hn HB HM
      go_wp2_with fail
      refine HPU.out.mono ?_
      rintro e w3 ⟨⟨u, rfl⟩, a3, hm3⟩
      have HB3 := Lib.hid (hm3.u.blk HB2.out (HM2.out.rr.not_own HB2.out.tag (by decide) (by decide)))
      have HM3 := Lib.hid (HM2.out.then hm3)
      clear hm3 hcb
      go_wp2_with fail
      go_roundw
      case rel => exact ⟨k + 1, by omega, by go_num, HB3.out, a3, by rw [HST.out, ← List.append_assoc]; exact HM3.out⟩
      case measure => simp [intOf]; omega
    · obtain rfl : k = n := by omega
      rw [List.take_of_length_le (by rw [HL.out]; exact Nat.le_refl _)] at HM
      go_wp2_with fail
      go_end0
      exact ⟨⟨_, rfl⟩, a', HM.out⟩

end Go.Proofs.Ytkopfnldgnkkoaa
