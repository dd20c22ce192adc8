/-
  RUNS: both, mark, apply.
-/
import Derived.Test.YtkopfnldgnkkoaaCmC
namespace Go.Proofs.Ytkopfnldgnkkoaa
open Go.RowKit Go.Shelf
set_option linter.unusedVariables false

def bothL (p q : Int) (l : List Wr) : List St := storeL p l ++ settleL q l
def markL (p : Int) (area v : Int) : List St := bothL p p [(area, v)]
def applyL (area : Int) (l : List Wr) : List St := bothL 4 5 l ++ markL 6 area 0
theorem linesOf_le (zs : List Int) : (linesOf zs).length ≤ 8192 := by
  unfold linesOf
  rw [List.length_map]
  exact Nat.le_trans (List.length_filter_le _ _) (by simp)
theorem settleL_len (p : Int) (l : List Wr) : (settleL p l).length ≤ 8193 := by
  unfold settleL
  rw [List.length_append, flushL9_len]
  have := linesOf_le (lineL l)
  simp only [List.length_cons, List.length_nil]
  omega
theorem bothL_len (p q : Int) (l : List Wr) : (bothL p q l).length ≤ l.length + 8193 := by
  unfold bothL
  rw [List.length_append, storeL_len]
  have := settleL_len q l
  omega
theorem markL_len (p area v : Int) : (markL p area v).length ≤ 8194 := by
  have h := bothL_len p p [(area, v)]
  have e : ([(area, v)] : List Wr).length = 1 := rfl
  rw [e] at h
  unfold markL
  generalize (bothL p p [(area, v)]).length = m at h ⊢
  omega

set_option maxRecDepth 100000 in
set_option maxHeartbeats 2000000 in
theorem both_any (r d : Nat) (g : G) (area : Int) (L : List St) (a : Option Addr) (p q : Int) (la : Option Addr) (n lc : Nat) (l : List Wr) (hl : l.length = n) (hL : L.length + n + n + 1 ≤ 100000) (hx : ∀ x ∈ l, 0 ≤ x.1 ∧ x.1 < 65536) (w : World) (h : RunAt w r d g area L a)
    (hP : ∀ W', UpO (OwnR9 r a) w W' → Pairs .i64 .u64 W'.heap.size W' la l) :
    Calls Try.prog 44 #[.pointer (some ⟨r, 0, none⟩), .int .u8 p, .int .u8 q, .slice la n lc] w (fun e w' => (∃ u, e = .returned u) ∧ ∃ a', RunM w r d g area a (L ++ bothL p q l) a' w') := by
  have HL := Lib.hid hl
  have HST := Lib.hid (stores_any r d g area L a p la n lc l hl (by omega) w h hP)
  have hlen : (L ++ storeL p l).length + n + 1 ≤ 100000 := by
    have e : (L ++ storeL p l).length = L.length + n := by rw [List.length_append, storeL_len, hl]
    generalize (L ++ storeL p l).length = m at e ⊢
    omega
  have HSE := Lib.hid (fun (w1 : World) (a1 : Option Addr) (hm : RunM w r d g area a (L ++ storeL p l) a1 w1) => settles_any r d g area (L ++ storeL p l) a1 q la n lc l hl hlen hx w1 hm.rr (fun W' k => hP W' (hm.u.trans k hm.o)))
  clear hP hx hl h
  go_enter Try.func44, Try.ntmps44
  go_wp2_with fail
  refine HST.out.mono ?_
  rintro e w1 ⟨⟨u, rfl⟩, a1, hm1⟩
  have HM := Lib.hid hm1
  clear hm1
  go_wp2_with fail
  refine (HSE.out w1 a1 HM.out).mono ?_
  rintro e w2 ⟨⟨u2, rfl⟩, a2, hm2⟩
  have HM2 := Lib.hid hm2
  clear hm2
  go_wp2_with fail
  go_end0
  exact ⟨⟨_, rfl⟩, a2, by unfold bothL; rw [← List.append_assoc]; exact HM.out.then HM2.out⟩

set_option maxRecDepth 100000 in
set_option maxHeartbeats 2000000 in
theorem mark_any' (r d : Nat) (g : G) (area : Int) (L : List St) (a : Option Addr) (p v : Int) (hL : L.length ≤ 90000) (h0 : 0 ≤ area) (h1 : area < 65536) (w : World) (h : RunAt w r d g area L a) :
    Calls Try.prog 45 #[.pointer (some ⟨r, 0, none⟩), .int .u8 p, .int .u64 v] w (fun e w' => (∃ u, e = .returned u) ∧ ∃ a', RunM w r d g area a (L ++ markL p area v) a' w') := by
  have HR := Lib.hid h
  obtain ⟨c, hk, _⟩ := h.k
  have hc4 : w.cell? ⟨r, 4, none⟩ = some (.int .i64 area) := hk.cell rfl
  have hn := (Nw.refl (w := w)).alloc (.cells #[.int .i64 area, .int .u64 v] 41)
  have hb := Blk.new w #[.int .i64 area, .int .u64 v] 41
  have HBO := Lib.hid (both_any r d g area L a p p (some ⟨w.heap.size, 0, none⟩) 1 1 [(area, v)] rfl (by omega) (by intro x hx; rw [List.mem_singleton.1 hx]; exact ⟨h0, h1⟩) _ (h.nw hn) (fun W' k => by
    have hb' := k.blk hb ((h.nw hn).not_own hb.tag (by decide) (by decide))
    refine .inr ⟨_, 0, rfl, hb'.lt, fun j hj => ?_⟩
    simp at hj
    subst hj
    exact ⟨hb'.cell rfl, hb'.cell rfl⟩))
  clear h hk hb h0 h1
  go_enter Try.func45, Try.ntmps45
  go_wp2_with fail
  refine HBO.out.mono ?_
  rintro e w2 ⟨⟨u2, rfl⟩, a2, hm2⟩
  have HM2 := Lib.hid hm2
  clear hm2
  go_wp2_with fail
  go_end0
  exact ⟨⟨_, rfl⟩, a2, .pre hn HM2.out⟩

set_option maxRecDepth 100000 in
set_option maxHeartbeats 2000000 in
theorem apply_any (r d : Nat) (g : G) (area : Int) (L : List St) (a : Option Addr) (la : Option Addr) (n lc : Nat) (l : List Wr) (hl : l.length = n) (hL : L.length + n + n ≤ 50000) (hx : ∀ x ∈ l, 0 ≤ x.1 ∧ x.1 < 65536) (h0 : 0 ≤ area) (h1 : area < 65536) (w : World) (h : RunAt w r d g area L a)
    (hP : ∀ W', UpO (OwnR9 r a) w W' → Pairs .i64 .u64 W'.heap.size W' la l) :
    Calls Try.prog 47 #[.pointer (some ⟨r, 0, none⟩), .slice la n lc] w (fun e w' => (∃ u, e = .returned u) ∧ ∃ a', RunM w r d g area a (L ++ applyL area l) a' w') := by
  have HBO := Lib.hid (both_any r d g area L a 4 5 la n lc l hl (by omega) hx w h hP)
  have hlen : (L ++ bothL 4 5 l).length ≤ 90000 := by rw [List.length_append]; have := bothL_len 4 5 l; omega
  have HMK := Lib.hid (fun (w1 : World) (a1 : Option Addr) (hm : RunM w r d g area a (L ++ bothL 4 5 l) a1 w1) => mark_any' r d g area (L ++ bothL 4 5 l) a1 6 0 hlen h0 h1 w1 hm.rr)
  clear hP hx hl h h0 h1 hlen
  go_enter Try.func47, Try.ntmps47
  go_wp2_with fail
  refine HBO.out.mono ?_
  rintro e w1 ⟨⟨u, rfl⟩, a1, hm1⟩
  have HM := Lib.hid hm1
  clear hm1
  go_wp2_with fail
  refine (HMK.out w1 a1 HM.out).mono ?_
  rintro e w2 ⟨⟨u2, rfl⟩, a2, hm2⟩
  have HM2 := Lib.hid hm2
  clear hm2
  go_wp2_with fail
  go_end0
  exact ⟨⟨_, rfl⟩, a2, by unfold applyL; rw [← List.append_assoc]; exact HM.out.then HM2.out⟩

end Go.Proofs.Ytkopfnldgnkkoaa
