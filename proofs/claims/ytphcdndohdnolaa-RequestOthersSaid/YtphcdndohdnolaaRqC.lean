/-
  THE DOCUMENT's May, Put (grommetref20).
-/
import Derived.Test.YtphcdndohdnolaaRqB
namespace Go.Proofs.Ytphcdndohdnolaa
open Go.RowKit Go.Shelf
set_option linter.unusedVariables false

theorem mayR_eq (r : Rq) : mayR r = (known r.kind && (decide (onlyQ r = r) && (decide (r.flags ≤ 7) && (decide ((r.path.size : Int) ≤ 200) && (decide ((r.dst.size : Int) ≤ 200) && decide ((r.data.size : Int) ≤ 128)))))) := by
  unfold mayR
  have e1 : decide (r.path.size ≤ 200) = decide ((r.path.size : Int) ≤ 200) := by simp; omega
  have e2 : decide (r.dst.size ≤ 200) = decide ((r.dst.size : Int) ≤ 200) := by simp; omega
  have e3 : decide (r.data.size ≤ 128) = decide ((r.data.size : Int) ≤ 128) := by simp; omega
  rw [e1, e2, e3]
  simp only [Bool.and_assoc]

set_option maxRecDepth 100000 in
set_option maxHeartbeats 4000000 in
attribute [local go_sem high] eql_rq in
theorem rmay_any (r : Rq) (w : World) : Calls Try.prog 14 #[rqV r] w fun e w' => e = .returned (.bool (mayR r)) ∧ Nw w w' := by
  have R0 := RqAt.new w r
  have hn0 : Nw w (w.alloc (.cells #[.int .u8 r.kind, .int .u8 r.flags, .int .u64 r.fd, .int .u64 r.pos, .int .u64 r.size, .string r.path, .string r.dst, .string r.data] 24)) := Nw.refl.alloc _
  have HO := Lib.hid (fun W => only_any r W)
  have HM := Lib.hid (mayR_eq r)
  unfold rqV at HO ⊢
  generalize hW : w.alloc (.cells #[.int .u8 r.kind, .int .u8 r.flags, .int .u64 r.fd, .int .u64 r.pos, .int .u64 r.size, .string r.path, .string r.dst, .string r.data] 24) = W1 at R0 hn0
  have HR0 := Lib.hid R0
  have HN0 := Lib.hid hn0
  obtain ⟨c0, c1, c2, c3, c4, c5, c6, c7, _⟩ := R0
  clear hn0
  obtain ⟨kn, hkn⟩ : ∃ kn, known r.kind = kn := ⟨_, rfl⟩
  obtain ⟨q, hq⟩ : ∃ q, onlyQ r = q := ⟨_, rfl⟩
  rw [hkn, hq] at HO HM
  clear hkn hq
  go_enter Try.func14, Try.ntmps14
  go_wp2_with fail
  clear hW
  refine (HO.out _).mono ?_
  rintro e w2 ⟨rfl, hN2⟩
  have HN2 := Lib.hid ((HN0.out.trans hN2).alloc (.cells #[.int .u8 q.kind, .int .u8 q.flags, .int .u64 q.fd, .int .u64 q.pos, .int .u64 q.size, .string q.path, .string q.dst, .string q.data] 24))
  have HR2 := Lib.hid ((HR0.out.nw hN2).nw (Nw.refl.alloc (.cells #[.int .u8 q.kind, .int .u8 q.flags, .int .u64 q.fd, .int .u64 q.pos, .int .u64 q.size, .string q.path, .string q.dst, .string q.data] 24)))
  have HQ2 := Lib.hid (RqAt.new w2 q)
  clear c0 c1 c2 c3 c4 c5 c6 c7 hN2
  go_upto_region 2 with fail
  generalize w2.alloc (.cells #[.int .u8 q.kind, .int .u8 q.flags, .int .u64 q.fd, .int .u64 q.pos, .int .u64 q.size, .string q.path, .string q.dst, .string q.data] 24) = W3 at HN2 HR2 HQ2 ⊢
  generalize w2.heap.size = qb at HQ2 ⊢
  cases kn with
  | false =>
    go_wp2_with fail
    go_ret
    exact ⟨by rw [HM.out]; rfl, HN2.out⟩
  | true =>
  obtain ⟨c0, c1, c2, c3, c4, c5, c6, c7, _⟩ := HR2.out
  obtain ⟨q0, q1, q2, q3, q4, q5, q6, q7, _⟩ := HQ2.out
  obtain ⟨eq, heq⟩ : ∃ eq, decide (q = r) = eq := ⟨_, rfl⟩
  have HE := Lib.hid heq
  rw [heq] at HM
  cases eq with
  | false =>
    go_wp2_with fail
    go_ret
    exact ⟨by rw [HM.out]; rfl, HN2.out⟩
  | true =>
  by_cases d1 : r.flags ≤ 7
  case neg =>
    have HD := Lib.hid (decide_eq_false d1)
    go_wp2_with fail
    go_ret
    exact ⟨by rw [HM.out, HD.out]; rfl, HN2.out⟩
  by_cases d2 : (r.path.size : Int) ≤ 200
  case neg =>
    have HD := Lib.hid (decide_eq_false d2)
    go_wp2_with fail
    go_ret
    exact ⟨by rw [HM.out, decide_eq_true d1, HD.out]; rfl, HN2.out⟩
  by_cases d3 : (r.dst.size : Int) ≤ 200
  case neg =>
    have HD := Lib.hid (decide_eq_false d3)
    go_wp2_with fail
    go_ret
    exact ⟨by rw [HM.out, decide_eq_true d1, decide_eq_true d2, HD.out]; rfl, HN2.out⟩
  by_cases d4 : (r.data.size : Int) ≤ 128
  case neg =>
    have HD := Lib.hid (decide_eq_false d4)
    go_wp2_with fail
    go_ret
    exact ⟨by rw [HM.out, decide_eq_true d1, decide_eq_true d2, decide_eq_true d3, HD.out]; rfl, HN2.out⟩
  go_wp2_with fail
  go_ret
  exact ⟨by rw [HM.out, decide_eq_true d1, decide_eq_true d2, decide_eq_true d3, decide_eq_true d4]; rfl, HN2.out⟩

end Go.Proofs.Ytphcdndohdnolaa
