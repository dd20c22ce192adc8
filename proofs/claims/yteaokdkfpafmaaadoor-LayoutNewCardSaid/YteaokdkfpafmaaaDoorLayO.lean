/-
  THE WALKS OF layout.Of, grommetref04.Of.
-/
import Derived.Test.YteaokdkfpafmaaaDoorLayH
import Derived.StillTailTactics
import Derived.Deep.Cut
namespace Go.Proofs.YteaokdkfpafmaaaDoor
open Go.RowKit

theorem results_cell_tmp {P : Program} {fn : Func} {p t : Tmp} {ty : TypeId} (h : fn.results = #[.cell p ty, .tmp t]) (tmps : Array Value) (w : World) (g : Nat) (ct : TypeId) (cs : Array Value) (fr : Nat × Nat) (d : TypeDesc)
    (hp : tmps.getD p undef = .pointer (some ⟨g, 0, none⟩)) (hg : w.heap[g]? = some (.cells cs ct fr))
    (hu : P.underlying ty = some d) (hd : (match d with | .struct _ | .array _ _ => true | _ => false) = true) (hi : (P.info? ty).map (·.size) = some cs.size) :
    (results fn tmps).run P w = .ok (.tuple #[.agg cs, tmps.getD t undef]) w := by
  have hp' : tmps[p]?.getD undef = .pointer (some ⟨g, 0, none⟩) := by simpa using hp
  simp [results, h, hp', asAddr, run_loadVar_row w g ct ty cs fr d hg hu hd hi]

/-- The geometry that words tell; whether they do. -/
def ofG (zs : List Int) : G := ⟨zs[1]?.getD 0, zs[2]?.getD 0, zs[3]?.getD 0⟩
def ofP (zs : List Int) : Prop := 8 ≤ zs.length ∧ zs[0]?.getD 0 = 32762617960297063 ∧ zs[1]?.getD 0 ≤ 512 ∧ zs[2]?.getD 0 ≤ 512 ∧ zs[3]?.getD 0 ≤ 512 ∧ mayP (ofG zs) ∧ wordsV (ofG zs) ≤ zs.length
open Classical in
noncomputable def ofV (zs : List Int) : G × Bool := if ofP zs then (ofG zs, true) else (⟨0, 0, 0⟩, false)
noncomputable def ofR (zs : List Int) : Value := .tuple #[gV (ofV zs).1, .bool (ofV zs).2]
theorem of_yes {zs : List Int} (h : ofP zs) : ofR zs = .tuple #[.agg #[.int .i64 (zs[1]?.getD 0), .int .i64 (zs[2]?.getD 0), .int .i64 (zs[3]?.getD 0)], .bool true] := by
  unfold ofR ofV; rw [if_pos h]; rfl
theorem of_no {zs : List Int} (h : ¬ ofP zs) : ofR zs = .tuple #[.agg #[.int .i64 0, .int .i64 0, .int .i64 0], .bool false] := by
  unfold ofR ofV; rw [if_neg h]; rfl
theorem ret_val {v u : Value} (h : v = u) : Ending.returned u = .returned v := by rw [h]

/-- The result's box. -/
structure Rc (w : World) (b : Nat) (x y z : Int) : Prop where
  c0 : w.cell? ⟨b, 0, none⟩ = some (.int .i64 x)
  c1 : w.cell? ⟨b, 1, none⟩ = some (.int .i64 y)
  c2 : w.cell? ⟨b, 2, none⟩ = some (.int .i64 z)
  f0 : w.frozen? ⟨b, 0, none⟩ = false
  f1 : w.frozen? ⟨b, 1, none⟩ = false
  f2 : w.frozen? ⟨b, 2, none⟩ = false
theorem Rc.new (w : World) (x y z : Int) (t : TypeId := 23) : Rc (w.alloc (.cells #[.int .i64 x, .int .i64 y, .int .i64 z] t)) w.heap.size x y z :=
  ⟨by simp, by simp, by simp, by simp, by simp, by simp⟩
theorem Rc.set3 {w : World} {b : Nat} {x y z : Int} (h : Rc w b x y z) (x' y' z' : Int) : Rc (((w.setCell ⟨b, 0, none⟩ (.int .i64 x')).setCell ⟨b, 1, none⟩ (.int .i64 y')).setCell ⟨b, 2, none⟩ (.int .i64 z')) b x' y' z' := by
  obtain ⟨c0, c1, c2, f0, f1, f2⟩ := h
  exact ⟨by simp [go_sem, c0], by simp [go_sem, c1], by simp [go_sem, c2], by simp [f0], by simp [f1], by simp [f2]⟩
theorem Rc.drew {w : World} {b : Nat} {x y z : Int} (h : Rc w b x y z) : Rc w.drew b x y z := ⟨h.c0, h.c1, h.c2, h.f0, h.f1, h.f2⟩
theorem Rc.at {w w' : World} {b : Nat} {x y z : Int} (h : Rc w b x y z) (k : At w w') : Rc w' b x y z := by
  have hb := (cell_lt h.c0).1
  exact ⟨(k.b.cell (p := ⟨b, 0, none⟩) hb).trans h.c0, (k.b.cell (p := ⟨b, 1, none⟩) hb).trans h.c1, (k.b.cell (p := ⟨b, 2, none⟩) hb).trans h.c2,
    (k.b.frozen (p := ⟨b, 0, none⟩) hb).trans h.f0, (k.b.frozen (p := ⟨b, 1, none⟩) hb).trans h.f1, (k.b.frozen (p := ⟨b, 2, none⟩) hb).trans h.f2⟩
theorem At.set3 {w0 w : World} {b : Nat} (h : At w0 w) (hb : w0.heap.size ≤ b) (x y z : Int) : At w0 (((w.setCell ⟨b, 0, none⟩ (.int .i64 x)).setCell ⟨b, 1, none⟩ (.int .i64 y)).setCell ⟨b, 2, none⟩ (.int .i64 z)) :=
  ((h.set (a := ⟨b, 0, none⟩) hb _).set (a := ⟨b, 1, none⟩) hb _).set (a := ⟨b, 2, none⟩) hb _
theorem Rc.drewN {w : World} {b : Nat} {x y z : Int} (h : Rc w b x y z) (n : Nat) : Rc (w.drewN n) b x y z := ⟨h.c0, h.c1, h.c2, h.f0, h.f1, h.f2⟩
theorem keep_alloc_drew (w : World) (o : Obj) (n : Nat) {b : Nat} (hb : b < w.heap.size) (j : Nat) : ((w.alloc o).drewN n).cell? ⟨b, j, none⟩ = w.cell? ⟨b, j, none⟩ := World.cell?_alloc_past o b j hb

set_option maxRecDepth 100000 in
set_option maxHeartbeats 2000000 in
theorem of_any {w0 w : World} (a : Option Addr) (len cap : Nat) (zs : List Int) (hl : zs.length = len) (hreach : len * 8 ≤ 140737488351232) (hw : ∀ n ∈ zs, isU64 n) (hI : Ints w0.heap.size .u64 w a zs) (h : At w0 w) :
    Calls Tryd.prog 35 #[.slice a len cap] w fun e w' => e = .returned (ofR zs) ∧ At w0 w' := by
  by_cases h8 : len < 8
  · have HR := Lib.hid (of_no (zs := zs) (by intro hh; have := hh.1; omega))
    have hd : decide ((len : Int) < 8) = true := by simp; omega
    clear hl
    go_enter Tryd.func35, Tryd.ntmps35
    go_wp2_with fail
    go_quiet (fail)
    go_wp2_with fail
    refine bodyPost_ret (v := .tuple #[.agg #[.int .i64 0, .int .i64 0, .int .i64 0], .bool false]) (by simp [results, Tryd.f35, go_sem]) rfl ?_
    exact ⟨ret_val HR.out, ((((h.alloc _).drewN _).set (a := ⟨w.heap.size, 0, none⟩) h.b.size _).set (a := ⟨w.heap.size, 1, none⟩) h.b.size _).set (a := ⟨w.heap.size, 2, none⟩) h.b.size _⟩
  · have hd : decide ((len : Int) < 8) = false := by simp; omega
    rcases hI with rfl | ⟨b, off, rfl, hb, hcs⟩
    · simp at hl; omega
    have c0 := hcs 0 (by omega)
    have c1 := hcs 1 (by omega)
    have c2 := hcs 2 (by omega)
    have c3 := hcs 3 (by omega)
    have hbw : b < w.heap.size := (cell_lt c0).1
    rw [Nat.add_zero] at c0
    clear hcs
    have HL := Lib.hid hl
    have r0 : (0 : Int) ≤ zs[1]?.getD 0 := by have := (hw _ (List.getElem_mem (show 1 < zs.length by omega))).1; simpa [show 1 < zs.length by omega] using this
    have r1 : (0 : Int) ≤ zs[2]?.getD 0 := by have := (hw _ (List.getElem_mem (show 2 < zs.length by omega))).1; simpa [show 2 < zs.length by omega] using this
    have r2 : (0 : Int) ≤ zs[3]?.getD 0 := by have := (hw _ (List.getElem_mem (show 3 < zs.length by omega))).1; simpa [show 3 < zs.length by omega] using this
    clear hw
    obtain ⟨z0, hz0⟩ : ∃ z : Int, zs[0]?.getD (0 : Int) = z := ⟨_, rfl⟩
    obtain ⟨z1, hz1⟩ : ∃ z : Int, zs[1]?.getD (0 : Int) = z := ⟨_, rfl⟩
    obtain ⟨z2, hz2⟩ : ∃ z : Int, zs[2]?.getD (0 : Int) = z := ⟨_, rfl⟩
    obtain ⟨z3, hz3⟩ : ∃ z : Int, zs[3]?.getD (0 : Int) = z := ⟨_, rfl⟩
    rw [hz0] at c0
    rw [hz1] at c1 r0
    rw [hz2] at c2 r1
    rw [hz3] at c3 r2
    have hP : ofP zs ↔ (z0 = 32762617960297063 ∧ z1 ≤ 512 ∧ z2 ≤ 512 ∧ z3 ≤ 512 ∧ mayP ⟨z1, z2, z3⟩ ∧ wordsV ⟨z1, z2, z3⟩ ≤ (len : Int)) := by
      unfold ofP ofG; rw [hz0, hz1, hz2, hz3, hl]
      exact ⟨fun hh => hh.2, fun hh => ⟨by omega, hh⟩⟩
    have HP := Lib.hid hP
    have HZ1 := Lib.hid hz1
    have HZ2 := Lib.hid hz2
    have HZ3 := Lib.hid hz3
    clear hP hz0 hz1 hz2 hz3 hl
    by_cases hm0 : z0 = 32762617960297063
    · have hd0 : (z0 != 32762617960297063) = false := by simp [hm0]
      have HM0 := Lib.hid hm0
      clear hm0
      by_cases hmx : z1 ≤ 512 ∧ z2 ≤ 512 ∧ z3 ≤ 512
      · obtain ⟨m1, m2, m3⟩ := hmx
        have hmx : decide (512 < (if (if z1 < z2 then z2 else z1) < z3 then z3 else if z1 < z2 then z2 else z1)) = false := by rw [decide_eq_false_iff_not]; split <;> split <;> omega
        go_enter Tryd.func35, Tryd.ntmps35
        go_wp2_with fail
        go_quiet (fail)
        go_upto_region 3 with (fail)
        have rc := (Rc.new w 0 0 0).drewN nq
        have a1 : At w0 ((w.alloc (.cells #[.int .i64 0, .int .i64 0, .int .i64 0] 23)).drewN nq) := (h.alloc _).drewN _
        have k1 := (keep_alloc_drew w (.cells #[.int .i64 0, .int .i64 0, .int .i64 0] 23) nq hbw (off + 1)).trans c1
        have k2 := (keep_alloc_drew w (.cells #[.int .i64 0, .int .i64 0, .int .i64 0] 23) nq hbw (off + 2)).trans c2
        have k3 := (keep_alloc_drew w (.cells #[.int .i64 0, .int .i64 0, .int .i64 0] 23) nq hbw (off + 3)).trans c3
        obtain ⟨B, hB⟩ : ∃ B, w.heap.size = B := ⟨_, rfl⟩
        have hB0 : w0.heap.size ≤ B := by rw [← hB]; exact h.b.size
        rw [hB] at rc hbw
        simp only [hB]
        generalize ((w.alloc (.cells #[.int .i64 0, .int .i64 0, .int .i64 0] 23)).drewN nq) = w1 at *
        clear c0 c1 c2 c3 hB h hmx hd0
        generalize (if (if z1 < z2 then z2 else z1) < z3 then z3 else if z1 < z2 then z2 else z1) = mx
        have q0 := rc.c0
        have q1 := rc.c1
        have q2 := rc.c2
        have q3 := rc.f0
        have q4 := rc.f1
        have q5 := rc.f2
        go_region
        replace rc := (rc.set3 z1 z2 z3).drew
        replace a1 := (a1.set3 hB0 z1 z2 z3).drew
        generalize (World.setCell (World.setCell (World.setCell w1 _ _) _ _) _ _).drew = w2 at *
        clear k1 k2 k3 q0 q1 q2 q3 q4 q5
        have q0 := rc.c0
        have q1 := rc.c1
        have q2 := rc.c2
        have q3 := rc.f0
        have q4 := rc.f1
        have q5 := rc.f2
        by_cases hm : mayP ⟨z1, z2, z3⟩
        · have HM := Lib.hid (mayB_true.2 hm)
          have HMp := Lib.hid hm
          clear hm
          go_wp2_with fail
          refine (may_any ⟨z1, z2, z3⟩ a1.self).mono ?_
          rintro e w3 ⟨rfl, k⟩
          rw [HM.out]
          replace rc := rc.at k
          replace a1 := a1.trans k
          clear k q0 q1 q2 q3 q4 q5
          have q0 := rc.c0
          have q1 := rc.c1
          have q2 := rc.c2
          have q3 := rc.f0
          have q4 := rc.f1
          have q5 := rc.f2
          go_wp2_with fail
          refine (words_any ⟨z1, z2, z3⟩ a1.self).mono ?_
          rintro e w4 ⟨rfl, k⟩
          replace rc := rc.at k
          replace a1 := a1.trans k
          clear k q0 q1 q2 q3 q4 q5
          have q0 := rc.c0
          have q1 := rc.c1
          have q2 := rc.c2
          have q3 := rc.f0
          have q4 := rc.f1
          have q5 := rc.f2
          by_cases hwd : wordsV ⟨z1, z2, z3⟩ ≤ (len : Int)
          · have hdw : decide ((len : Int) < wordsV ⟨z1, z2, z3⟩) = false := by rw [decide_eq_false_iff_not]; omega
            have HR := Lib.hid (of_yes (zs := zs) (HP.out.2 ⟨HM0.out, m1, m2, m3, HMp.out, hwd⟩))
            go_wp2_with fail
            refine bodyPost_ret (v := .tuple #[.agg #[.int .i64 z1, .int .i64 z2, .int .i64 z3], .bool true]) (by simp [results, Tryd.f35, go_sem, q0, q1, q2]) rfl ?_
            exact ⟨ret_val (by rw [HR.out, HZ1.out, HZ2.out, HZ3.out]), a1.set3 hB0 z1 z2 z3⟩
          · have hdw : decide ((len : Int) < wordsV ⟨z1, z2, z3⟩) = true := by rw [decide_eq_true_eq]; omega
            have HR := Lib.hid (of_no (zs := zs) (fun hh => hwd (HP.out.1 hh).2.2.2.2.2))
            go_wp2_with fail
            refine bodyPost_ret (v := .tuple #[.agg #[.int .i64 0, .int .i64 0, .int .i64 0], .bool false]) (by simp [results, Tryd.f35, go_sem, q0, q1, q2]) rfl ?_
            exact ⟨ret_val HR.out, a1.set3 hB0 0 0 0⟩
        · have HM := Lib.hid (mayB_false.2 hm)
          have HR := Lib.hid (of_no (zs := zs) (fun hh => hm (HP.out.1 hh).2.2.2.2.1))
          clear hm
          go_wp2_with fail
          refine (may_any ⟨z1, z2, z3⟩ a1.self).mono ?_
          rintro e w3 ⟨rfl, k⟩
          rw [HM.out]
          replace rc := rc.at k
          replace a1 := a1.trans k
          clear k q0 q1 q2 q3 q4 q5
          have q0 := rc.c0
          have q1 := rc.c1
          have q2 := rc.c2
          have q3 := rc.f0
          have q4 := rc.f1
          have q5 := rc.f2
          go_wp2_with fail
          refine bodyPost_ret (v := .tuple #[.agg #[.int .i64 0, .int .i64 0, .int .i64 0], .bool false]) (by simp [results, Tryd.f35, go_sem, q0, q1, q2]) rfl ?_
          exact ⟨ret_val HR.out, a1.set3 hB0 0 0 0⟩
      · have hmx' := hmx
        have hmx : decide (512 < (if (if z1 < z2 then z2 else z1) < z3 then z3 else if z1 < z2 then z2 else z1)) = true := by rw [decide_eq_true_eq]; split <;> split <;> omega
        have HR := Lib.hid (of_no (zs := zs) (fun hh => hmx' ⟨(HP.out.1 hh).2.1, (HP.out.1 hh).2.2.1, (HP.out.1 hh).2.2.2.1⟩))
        clear hmx'
        go_enter Tryd.func35, Tryd.ntmps35
        go_wp2_with fail
        go_quiet (fail)
        go_upto_region 2 with (fail)
        clear hmx hd0
        generalize (if (if z1 < z2 then z2 else z1) < z3 then z3 else if z1 < z2 then z2 else z1) = mx
        go_wp2_with fail
        refine bodyPost_ret (v := .tuple #[.agg #[.int .i64 0, .int .i64 0, .int .i64 0], .bool false]) (by simp [results, Tryd.f35, go_sem]) rfl ?_
        exact ⟨ret_val HR.out, ((h.alloc _).drewN _).set3 h.b.size 0 0 0⟩
    · have hd0 : (z0 != 32762617960297063) = true := by simp [hm0]
      have HR := Lib.hid (of_no (zs := zs) (by intro hh; exact hm0 (HP.out.1 hh).1))
      clear hm0
      go_enter Tryd.func35, Tryd.ntmps35
      go_wp2_with fail
      go_quiet (fail)
      go_wp2_with fail
      refine bodyPost_ret (v := .tuple #[.agg #[.int .i64 0, .int .i64 0, .int .i64 0], .bool false]) (by simp [results, Tryd.f35, go_sem]) rfl ?_
      exact ⟨ret_val HR.out, ((((h.alloc _).drewN _).set (a := ⟨w.heap.size, 0, none⟩) h.b.size _).set (a := ⟨w.heap.size, 1, none⟩) h.b.size _).set (a := ⟨w.heap.size, 2, none⟩) h.b.size _⟩

end Go.Proofs.YteaokdkfpafmaaaDoor
