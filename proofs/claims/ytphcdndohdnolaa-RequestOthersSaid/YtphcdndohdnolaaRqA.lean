/-
  THE WALKS OF request.May, Put, Get.
-/
import Derived.Laws.StructEq
import Derived.Test.YtphcdndohdnolaaRqG
namespace Go.Proofs.Ytphcdndohdnolaa
open Go.RowKit Go.Shelf
set_option linter.unusedVariables false

theorem putL_byte {r : Rq} (hr : okRq r) : ∀ x ∈ putL r, isByte x := by
  intro x hx
  simp only [putL, List.mem_cons, List.mem_flatMap] at hx
  rcases hx with rfl | ⟨f, _, hf⟩
  · exact hr.kind
  · obtain ⟨_, f1⟩ := hr.flags
    obtain ⟨_, f2⟩ := hr.fd
    obtain ⟨_, f3⟩ := hr.pos
    obtain ⟨_, f4⟩ := hr.size
    have h1 := hr.path
    have h2 := hr.dst
    have h3 := hr.data
    have e : ∀ (s : ByteArray), s.size < 18446744073709551616 → x ∈ txtB s → isByte x := fun s hs hx => by
      rcases List.mem_append.1 hx with h | h
      · exact numL_byte _ hs x h
      · exact strB_byte _ x h
    cases f
    · exact e _ (by omega) hf
    · exact numL_byte _ (by omega) x hf
    · exact numL_byte _ (by omega) x hf
    · exact numL_byte _ (by omega) x hf
    · exact numL_byte _ (by omega) x hf
    · exact e _ (by omega) hf
    · exact e _ (by omega) hf

theorem ba_toList {a b : ByteArray} (h : a.toList = b.toList) : a = b := by
  rw [ByteArray.toList_eq, ByteArray.toList_eq] at h
  obtain ⟨⟨x⟩⟩ := a
  obtain ⟨⟨y⟩⟩ := b
  simp at h
  rw [h]
theorem rq_ext (q r : Rq) : q = r ↔ q.kind = r.kind ∧ q.flags = r.flags ∧ q.fd = r.fd ∧ q.pos = r.pos ∧ q.size = r.size ∧ q.path.toList = r.path.toList ∧ q.dst.toList = r.dst.toList ∧ q.data.toList = r.data.toList := by
  constructor
  · rintro rfl; exact ⟨rfl, rfl, rfl, rfl, rfl, rfl, rfl, rfl⟩
  · rintro ⟨h1, h2, h3, h4, h5, h6, h7, h8⟩
    exact Rq.ext h1 h2 h3 h4 h5 (ba_toList h6) (ba_toList h7) (ba_toList h8)
theorem equalIn_rq (q r : Rq) (W : World) : (Op.equalIn 10000 24 (rqV q) (rqV r)).run Try.prog W = .ok (decide (q = r)) W := by
  unfold rqV
  rw [show decide (q = r) = decide (q.kind = r.kind ∧ q.flags = r.flags ∧ q.fd = r.fd ∧ q.pos = r.pos ∧ q.size = r.size ∧ q.path.toList = r.path.toList ∧ q.dst.toList = r.dst.toList ∧ q.data.toList = r.data.toList) from by simp only [rq_ext]]
  simp [go_sem]
  repeat' split
  all_goals simp_all
theorem eql_rq (q r : Rq) (W : World) : (binOp .eql 24 (.agg #[.int .u8 q.kind, .int .u8 q.flags, .int .u64 q.fd, .int .u64 q.pos, .int .u64 q.size, .string q.path, .string q.dst, .string q.data]) (.agg #[.int .u8 r.kind, .int .u8 r.flags, .int .u64 r.fd, .int .u64 r.pos, .int .u64 r.size, .string r.path, .string r.dst, .string r.data])).run Try.prog W = .ok (.bool (decide (q = r))) W := by
  rw [run_eql_struct]
  have h := equalIn_rq q r W
  unfold rqV at h
  rw [h]; rfl
theorem neq_rq (q r : Rq) (W : World) : (binOp .neq 24 (.agg #[.int .u8 q.kind, .int .u8 q.flags, .int .u64 q.fd, .int .u64 q.pos, .int .u64 q.size, .string q.path, .string q.dst, .string q.data]) (.agg #[.int .u8 r.kind, .int .u8 r.flags, .int .u64 r.fd, .int .u64 r.pos, .int .u64 r.size, .string r.path, .string r.dst, .string r.data])).run Try.prog W = .ok (.bool (!decide (q = r))) W := by
  have h := equalIn_rq q r W
  unfold rqV at h
  simp only [binOp, Op.equal, Op.maxDepth, Sem.run_bind, h, Result.andThen_ok, Sem.run_pure]

set_option maxRecDepth 100000 in
set_option maxHeartbeats 4000000 in
attribute [local go_sem high] eql_rq in
theorem may_any (r : Rq) (hr : smallRq r) (w : World) : Calls Try.prog 13 #[rqV r] w fun e w' => e = .returned (.bool (mayQ r)) ∧ Nw w w' := by
  have R0 := RqAt.new w r
  have hn0 : Nw w (w.alloc (.cells #[.int .u8 r.kind, .int .u8 r.flags, .int .u64 r.fd, .int .u64 r.pos, .int .u64 r.size, .string r.path, .string r.dst, .string r.data] 24)) := Nw.refl.alloc _
  have HP := Lib.hid (qput_any r hr (w.alloc (.cells #[.int .u8 r.kind, .int .u8 r.flags, .int .u64 r.fd, .int .u64 r.pos, .int .u64 r.size, .string r.path, .string r.dst, .string r.data] 24)))
  have HR := Lib.hid hr
  unfold rqV at HP ⊢
  clear hr
  generalize hW : w.alloc (.cells #[.int .u8 r.kind, .int .u8 r.flags, .int .u64 r.fd, .int .u64 r.pos, .int .u64 r.size, .string r.path, .string r.dst, .string r.data] 24) = W1 at R0 hn0 HP
  have HR0 := Lib.hid R0
  have HN0 := Lib.hid hn0
  obtain ⟨c0, c1, c2, c3, c4, c5, c6, c7, _⟩ := R0
  clear hn0
  go_enter Try.func13, Try.ntmps13
  go_wp2_with fail
  clear hW
  refine HP.out.mono ?_
  intro e w2 h2
  obtain ⟨a2, cap2, rfl, hI2, hN2, hc2⟩ := OwnR.slice h2
  have HRD := Lib.hid (read_any a2 _ cap2 (putL r) rfl (by have := putL_len HR.out; omega) (putL_byte HR.out.ok) w2 hI2)
  have HR2 := Lib.hid (HR0.out.nw hN2)
  have HN2 := Lib.hid (HN0.out.trans hN2)
  clear h2 hI2 hN2 hc2 c0 c1 c2 c3 c4 c5 c6 c7
  generalize (putL r).length = lp at HRD ⊢
  go_wp2_with fail
  refine HRD.out.mono ?_
  rintro e w3 ⟨rfl, hN3⟩
  obtain ⟨q, hq⟩ : ∃ q, (readS (putL r)).r = q := ⟨_, rfl⟩
  obtain ⟨b, hb⟩ : ∃ b, readB (putL r) = b := ⟨_, rfl⟩
  have HM := Lib.hid (show mayQ r = (b && decide (q = r)) from by rw [← hb, ← hq]; rfl)
  rw [hq, hb]
  clear hq hb
  unfold rqV
  have Q3 := RqAt.new w3 q
  have R3 := (HR2.out.nw hN3).nw (Nw.refl.alloc (.cells #[.int .u8 q.kind, .int .u8 q.flags, .int .u64 q.fd, .int .u64 q.pos, .int .u64 q.size, .string q.path, .string q.dst, .string q.data] 24))
  obtain ⟨c0, c1, c2, c3, c4, c5, c6, c7, _⟩ := R3
  cases b with
  | false =>
    go_wp2_with fail
    go_ret
    exact ⟨by rw [HM.out]; rfl, (HN2.out.trans hN3).alloc _⟩
  | true =>
    go_wp2_with fail
    go_ret
    exact ⟨by rw [HM.out]; rfl, (HN2.out.trans hN3).alloc _⟩

set_option maxRecDepth 100000 in
set_option maxHeartbeats 4000000 in
theorem putq_any (r : Rq) (hr : smallRq r) (w : World) : Calls Try.prog 15 #[rqV r] w (OwnR w (putQ r)) := by
  have R0 := RqAt.new w r
  have hn0 : Nw w (w.alloc (.cells #[.int .u8 r.kind, .int .u8 r.flags, .int .u64 r.fd, .int .u64 r.pos, .int .u64 r.size, .string r.path, .string r.dst, .string r.data] 24)) := Nw.refl.alloc _
  have HP := Lib.hid (fun W => qput_any r hr W)
  have HMY := Lib.hid (fun W => may_any r hr W)
  unfold rqV at HP HMY ⊢
  clear hr
  generalize hW : w.alloc (.cells #[.int .u8 r.kind, .int .u8 r.flags, .int .u64 r.fd, .int .u64 r.pos, .int .u64 r.size, .string r.path, .string r.dst, .string r.data] 24) = W1 at R0 hn0
  have HR0 := Lib.hid R0
  have HN0 := Lib.hid hn0
  obtain ⟨c0, c1, c2, c3, c4, c5, c6, c7, _⟩ := R0
  clear hn0
  obtain ⟨m, hm⟩ : ∃ m, mayQ r = m := ⟨_, rfl⟩
  have HM := Lib.hid hm
  rw [hm] at HMY
  clear hm
  go_enter Try.func15, Try.ntmps15
  go_wp2_with fail
  clear hW
  refine (HMY.out _).mono ?_
  rintro e w2 ⟨rfl, hN2⟩
  have HN2 := Lib.hid (HN0.out.trans hN2)
  have R2 := HR0.out.nw hN2
  clear c0 c1 c2 c3 c4 c5 c6 c7 hN2
  obtain ⟨c0, c1, c2, c3, c4, c5, c6, c7, _⟩ := R2
  cases m with
  | false =>
    go_wp2_with fail
    go_ret
    exact ⟨_, rfl, by rw [show putQ r = [] from if_neg (by rw [HM.out]; decide)]; exact World.ownsRow_nil _ _ _ _, HN2.out⟩
  | true =>
    go_wp2_with fail
    refine (HP.out _).mono ?_
    rintro e w3 ⟨v3, rfl, ho, hN3⟩
    go_wp2_with fail
    go_ret
    rw [show putQ r = putL r from if_pos HM.out]
    exact OwnR.mono HN2.out ⟨_, rfl, ho, hN3⟩

/-! ### What has been read is small -/
theorem txtR_size (zs : List Int) (torn : Bool) (most : Nat) : (txtR zs torn most).size ≤ most := by
  unfold txtR
  split
  · exact Nat.zero_le _
  · unfold txtV
    split
    · rename_i h
      have h1 := h.2.2.1
      have : (strOfNums (txtL zs)).size ≤ (numV zs).1.toNat := by
        have h2 : (strOfNums (txtL zs)).size = (txtL zs).length := by simp [strOfNums, ByteArray.size]
        rw [h2]; unfold txtL; rw [List.length_take]; omega
      omega
    · exact Nat.zero_le _
theorem numR_bd {zs : List Int} (hz : ∀ x ∈ zs, isByte x) (torn : Bool) : 0 ≤ numR zs torn ∧ numR zs torn ≤ 18446744073709551615 := by
  unfold numR
  split
  · exact ⟨by decide, by decide⟩
  · exact numV_range _ hz
structure okRd (s : Rd) : Prop where
  z : ∀ x ∈ s.zs, isByte x
  kind : isByte s.r.kind
  flags : isByte s.r.flags
  fd : 0 ≤ s.r.fd ∧ s.r.fd ≤ 18446744073709551615
  pos : 0 ≤ s.r.pos ∧ s.r.pos ≤ 18446744073709551615
  size : 0 ≤ s.r.size ∧ s.r.size ≤ 18446744073709551615
  path : s.r.path.size ≤ 200
  dst : s.r.dst.size ≤ 200
  data : s.r.data.size ≤ 200
theorem stepT_by {zs : List Int} (hz : ∀ x ∈ zs, isByte x) (torn : Bool) (n : Nat) : ∀ x ∈ (stepT zs torn n).1, isByte x := by
  unfold stepT
  split
  · exact hz
  · split
    · exact hz
    · exact fun x hx => hz x (List.mem_of_mem_drop hx)
theorem get1_ok {s : Rd} (h : okRd s) (f : Fd) : okRd (get1 s f) := by
  obtain ⟨z, k, fl, a, b, c, p, t, d⟩ := h
  obtain ⟨n0, n1⟩ := numR_bd z s.torn
  have t200 := txtR_size s.zs s.torn 200
  have t128 := txtR_size s.zs s.torn 128
  cases f
  · exact ⟨stepT_by z _ _, k, fl, a, b, c, t200, t, d⟩
  · exact ⟨stepT_by z _ _, k, ⟨by show 0 ≤ min _ _; omega, by show min _ _ ≤ 255; omega⟩, a, b, c, p, t, d⟩
  · exact ⟨stepT_by z _ _, k, fl, ⟨n0, n1⟩, b, c, p, t, d⟩
  · exact ⟨stepT_by z _ _, k, fl, a, ⟨n0, n1⟩, c, p, t, d⟩
  · exact ⟨stepT_by z _ _, k, fl, a, b, ⟨n0, n1⟩, p, t, d⟩
  · exact ⟨stepT_by z _ _, k, fl, a, b, c, p, t200, d⟩
  · exact ⟨stepT_by z _ _, k, fl, a, b, c, p, t, Nat.le_trans t128 (by decide)⟩
theorem readS_ok {zs : List Int} (hz : ∀ x ∈ zs, isByte x) : okRd (readS zs) := by
  have h0 : okRd (startR zs) := by
    have b0 : (0 : Int) ≤ 0 ∧ (0 : Int) ≤ 18446744073709551615 := ⟨by decide, by decide⟩
    have b1 : isByte 0 := ⟨by decide, by decide⟩
    refine ⟨stepT_by hz _ _, ?_, b1, b0, b0, b0, Nat.zero_le _, Nat.zero_le _, Nat.zero_le _⟩
    show isByte (byV zs)
    unfold byV
    cases zs with
    | nil => exact ⟨by decide, by decide⟩
    | cons x zs => exact hz x List.mem_cons_self
  have : ∀ (l : List Fd) (s : Rd), okRd s → okRd (l.foldl get1 s) := by
    intro l
    induction l with
    | nil => intro s h; exact h
    | cons f l ih => intro s h; exact ih _ (get1_ok h f)
  exact this _ _ h0
theorem readS_small {zs : List Int} (hz : ∀ x ∈ zs, isByte x) : smallRq (readS zs).r := by
  have h := readS_ok hz
  exact ⟨⟨h.kind, h.flags, h.fd, h.pos, h.size, by have := h.path; omega, by have := h.dst; omega, by have := h.data; omega⟩, by have := h.path; have := h.dst; have := h.data; omega⟩

set_option maxHeartbeats 1000000 in
theorem equal_any (a1 : Option Addr) (n1 c1 : Nat) (a2 : Option Addr) (n2 c2 : Nat) (xs ys : List Int) (hx : xs.length = n1) (hy : ys.length = n2) (hbx : ∀ x ∈ xs, isByte x) (hby : ∀ y ∈ ys, isByte y) (B : Nat) (w : World) (hI : Ints B .u8 w a1 xs) (hJ : Ints B .u8 w a2 ys) :
    Calls Try.prog 20 #[.slice a1 n1 c1, .slice a2 n2 c2] w fun e w' => e = .returned (.bool (decide (xs = ys))) ∧ w = w' := by
  have h1 := cv8 (w := w) c1 hx hI
  have h2 := cv8 (w := w) c2 hy hJ
  have HE := Lib.hid (strOf_inj hbx hby)
  by_cases he : xs = ys
  · have HX := Lib.hid he
    have hs : (strOfNums xs).toList = (strOfNums ys).toList := by rw [he]
    clear he hI hJ hx hy hbx hby
    go_enter Try.func20, Try.ntmps20
    go_wp2_with fail
    go_ret
    exact ⟨by rw [decide_eq_true HX.out]; rfl, rfl⟩
  · have HX := Lib.hid he
    have hs : ((strOfNums xs).toList == (strOfNums ys).toList) = false := by
      rw [beq_eq_false_iff_ne]
      exact fun h => he (HE.out.1 (ba_toList h))
    clear he hI hJ hx hy hbx hby
    go_enter Try.func20, Try.ntmps20
    go_wp2_with fail
    go_ret
    exact ⟨by rw [decide_eq_false HX.out]; rfl, rfl⟩

/-- What Get tells. -/
def GetR (zs : List Int) (w : World) (e : Ending) (w' : World) : Prop := e = .returned (.tuple #[rqV (getQ zs), .int .i64 (getE zs)]) ∧ Nw w w'

set_option maxRecDepth 100000 in
set_option maxHeartbeats 8000000 in
theorem get_any (a : Option Addr) (len cap : Nat) (zs : List Int) (hl : zs.length = len) (hreach : len ≤ 140737488355000) (hz : ∀ x ∈ zs, isByte x) (w : World) (hI : Ints w.heap.size .u8 w a zs) :
    Calls Try.prog 11 #[.slice a len cap] w (GetR zs w) := by
  have hn0 : Nw w (w.alloc (.cells #[.int .u8 0, .int .u8 0, .int .u64 0, .int .u64 0, .int .u64 0, .string ⟨#[]⟩, .string ⟨#[]⟩, .string ⟨#[]⟩] 24)) := Nw.refl.alloc _
  have R0 : RqAt (w.alloc (.cells #[.int .u8 0, .int .u8 0, .int .u64 0, .int .u64 0, .int .u64 0, .string ⟨#[]⟩, .string ⟨#[]⟩, .string ⟨#[]⟩] 24)) w.heap.size zeroRq := RqAt.new w zeroRq
  have HRD := Lib.hid (read_any a len cap zs hl hreach hz _ (hn0.ints hI))
  have HSM := Lib.hid (readS_small hz)
  have HIW := Lib.hid (fun W (h : Nw w W) => h.ints hI)
  have HL := Lib.hid hl
  have HZ := Lib.hid hz
  clear hl hI hz
  generalize hW : w.alloc (.cells #[.int .u8 0, .int .u8 0, .int .u64 0, .int .u64 0, .int .u64 0, .string ⟨#[]⟩, .string ⟨#[]⟩, .string ⟨#[]⟩] 24) = W1 at hn0 R0 HRD
  have HN0 := Lib.hid hn0
  have HR0 := Lib.hid R0
  clear hn0 R0
  go_enter Try.func11, Try.ntmps11
  go_wp2_with fail
  clear hW
  refine HRD.out.mono ?_
  rintro e w2 ⟨rfl, hN2⟩
  obtain ⟨q, hq⟩ : ∃ q, (readS zs).r = q := ⟨_, rfl⟩
  obtain ⟨b, hb⟩ : ∃ b, readB zs = b := ⟨_, rfl⟩
  rw [hq] at HSM
  have HOK := Lib.hid (show getOk zs = (b && decide (putL q = zs)) from by rw [← hb, ← hq]; rfl)
  have HQ := Lib.hid hq
  rw [hq, hb]
  clear hq hb
  unfold rqV
  have Q3 := RqAt.new w2 q
  have HN3 := Lib.hid ((HN0.out.trans hN2).alloc (.cells #[.int .u8 q.kind, .int .u8 q.flags, .int .u64 q.fd, .int .u64 q.pos, .int .u64 q.size, .string q.path, .string q.dst, .string q.data] 24))
  have HR3 := Lib.hid ((HR0.out.nw hN2).nw (Nw.refl.alloc (.cells #[.int .u8 q.kind, .int .u8 q.flags, .int .u64 q.fd, .int .u64 q.pos, .int .u64 q.size, .string q.path, .string q.dst, .string q.data] 24)))
  have HP := Lib.hid (qput_any q HSM.out (w2.alloc (.cells #[.int .u8 q.kind, .int .u8 q.flags, .int .u64 q.fd, .int .u64 q.pos, .int .u64 q.size, .string q.path, .string q.dst, .string q.data] 24)))
  unfold rqV at HP
  clear hN2
  have HQ3 := Lib.hid Q3
  clear Q3
  go_upto_region 2 with fail
  generalize w2.alloc (.cells #[.int .u8 q.kind, .int .u8 q.flags, .int .u64 q.fd, .int .u64 q.pos, .int .u64 q.size, .string q.path, .string q.dst, .string q.data] 24) = W3 at HQ3 HN3 HR3 HP ⊢
  generalize w2.heap.size = qb at HQ3 ⊢
  cases b with
  | false =>
    have RX := HR3.out
    have RX : RqAt W3 w.heap.size ⟨0, 0, 0, 0, 0, ⟨#[]⟩, ⟨#[]⟩, ⟨#[]⟩⟩ := RX
    obtain ⟨c0, c1, c2, c3, c4, c5, c6, c7, ff⟩ := RX
    have f0 := ff 0
    have f1 := ff 1
    have f2 := ff 2
    have f3 := ff 3
    have f4 := ff 4
    have f5 := ff 5
    have f6 := ff 6
    have f7 := ff 7
    clear ff
    dsimp only at c0 c1 c2 c3 c4 c5 c6 c7
    have R8 := Lib.hid (show RqAt _ _ zeroRq from (((((((HR3.out.set0 0).set1 0).set2 0).set3 0).set4 0).set5 ⟨#[]⟩).set6 ⟨#[]⟩).set7 ⟨#[]⟩)
    have U8 := Lib.hid (((((((((Up.refl w.heap.size W3).set 0 (.int .u8 0)).set 1 (.int .u8 0)).set 2 (.int .u64 0)).set 3 (.int .u64 0)).set 4 (.int .u64 0)).set 5 (.string ⟨#[]⟩)).set 6 (.string ⟨#[]⟩)).set 7 (.string ⟨#[]⟩))
    go_wp2_with fail
    refine bodyPost_ret (results_rq rfl _ _ w.heap.size zeroRq rfl R8.out) rfl ⟨?_, ⟨Up.below HN3.out.b U8.out HN3.out.b.size (Nat.le_refl _)⟩⟩
    obtain ⟨e1, e2⟩ := get_no (zs := zs) (by rw [HOK.out]; rfl)
    rw [e1, e2]; rfl
  | true =>
    obtain ⟨c0, c1, c2, c3, c4, c5, c6, c7, _⟩ := HQ3.out
    go_wp2_with fail
    refine HP.out.mono ?_
    intro e w4 h4
    obtain ⟨a4, cap4, rfl, hI4, hN4, hc4⟩ := OwnR.slice h4
    have HE := Lib.hid (equal_any a4 _ cap4 a len cap (putL q) zs rfl HL.out (putL_byte HSM.out.ok) HZ.out w4.heap.size w4 hI4 (HIW.out _ (HN3.out.trans hN4)))
    have HN4 := Lib.hid (HN3.out.trans hN4)
    have HR4 := Lib.hid (HR3.out.nw hN4)
    have HQ4 := Lib.hid (HQ3.out.nw hN4)
    clear h4 hI4 hN4 hc4 c0 c1 c2 c3 c4 c5 c6 c7
    obtain ⟨d, hd⟩ : ∃ d, decide (putL q = zs) = d := ⟨_, rfl⟩
    rw [hd] at HE HOK
    clear hd
    generalize (putL q).length = lp at HE ⊢
    go_wp2_with fail
    refine HE.out.mono ?_
    rintro e w5 ⟨rfl, rfl⟩
    cases d with
    | false =>
      have RX : RqAt w4 w.heap.size ⟨0, 0, 0, 0, 0, ⟨#[]⟩, ⟨#[]⟩, ⟨#[]⟩⟩ := HR4.out
      obtain ⟨c0, c1, c2, c3, c4, c5, c6, c7, ff⟩ := RX
      have f0 := ff 0
      have f1 := ff 1
      have f2 := ff 2
      have f3 := ff 3
      have f4 := ff 4
      have f5 := ff 5
      have f6 := ff 6
      have f7 := ff 7
      clear ff
      dsimp only at c0 c1 c2 c3 c4 c5 c6 c7
      have R8 := Lib.hid (show RqAt _ _ zeroRq from (((((((HR4.out.set0 0).set1 0).set2 0).set3 0).set4 0).set5 ⟨#[]⟩).set6 ⟨#[]⟩).set7 ⟨#[]⟩)
      have U8 := Lib.hid (((((((((Up.refl w.heap.size w4).set 0 (.int .u8 0)).set 1 (.int .u8 0)).set 2 (.int .u64 0)).set 3 (.int .u64 0)).set 4 (.int .u64 0)).set 5 (.string ⟨#[]⟩)).set 6 (.string ⟨#[]⟩)).set 7 (.string ⟨#[]⟩))
      go_wp2_with fail
      refine bodyPost_ret (results_rq rfl _ _ w.heap.size zeroRq rfl R8.out) rfl ⟨?_, ⟨Up.below HN4.out.b U8.out HN4.out.b.size (Nat.le_refl _)⟩⟩
      obtain ⟨e1, e2⟩ := get_no (zs := zs) (by rw [HOK.out]; rfl)
      rw [e1, e2]; rfl
    | true =>
      have RX : RqAt w4 w.heap.size ⟨0, 0, 0, 0, 0, ⟨#[]⟩, ⟨#[]⟩, ⟨#[]⟩⟩ := HR4.out
      obtain ⟨c0, c1, c2, c3, c4, c5, c6, c7, ff⟩ := RX
      have f0 := ff 0
      have f1 := ff 1
      have f2 := ff 2
      have f3 := ff 3
      have f4 := ff 4
      have f5 := ff 5
      have f6 := ff 6
      have f7 := ff 7
      clear ff
      dsimp only at c0 c1 c2 c3 c4 c5 c6 c7
      obtain ⟨q0, q1, q2, q3, q4, q5, q6, q7, _⟩ := HQ4.out
      have R8 := Lib.hid (show RqAt _ _ q from (((((((HR4.out.set0 q.kind).set1 q.flags).set2 q.fd).set3 q.pos).set4 q.size).set5 q.path).set6 q.dst).set7 q.data)
      have U8 := Lib.hid (((((((((Up.refl w.heap.size w4).set 0 (.int .u8 q.kind)).set 1 (.int .u8 q.flags)).set 2 (.int .u64 q.fd)).set 3 (.int .u64 q.pos)).set 4 (.int .u64 q.size)).set 5 (.string q.path)).set 6 (.string q.dst)).set 7 (.string q.data))
      go_wp2_with fail
      refine bodyPost_ret (results_rq rfl _ _ w.heap.size q rfl R8.out) rfl ⟨?_, ⟨Up.below HN4.out.b U8.out HN4.out.b.size (Nat.le_refl _)⟩⟩
      have h3 : getOk zs = true := by rw [HOK.out]; rfl
      rw [show getQ zs = q from (if_pos h3).trans HQ.out, show getE zs = 0 from if_pos h3]; rfl

end Go.Proofs.Ytphcdndohdnolaa
