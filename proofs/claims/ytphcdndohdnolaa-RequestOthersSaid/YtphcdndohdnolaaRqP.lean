/-
  THE WALK OF request.put.
-/
import Derived.Deep.DeepCutAuto
import Derived.Test.YtphcdndohdnolaaRqT
import Derived.Test.YtphcdndohdnolaaRqN
namespace Go.Proofs.Ytphcdndohdnolaa
open Go.RowKit Go.Shelf
set_option linter.unusedVariables false

/-- What the call kinds() tells, for one kind. -/
def KindP (k : Int) (w : World) (e : Ending) (w' : World) : Prop :=
  ∃ M, e = .returned (.map (some M)) ∧ Nw w w' ∧ TabAt w.heap.size w' M k
theorem kinds_of (k : Int) (w : World) : Calls Try.prog 32 #[] w (KindP k w) := by
  refine (kinds_any w).mono ?_
  rintro e w' ⟨W8, M, rfl, hN, hM, hK⟩
  have hu := hK.1
  refine ⟨M, rfl, ?_, table_at (by rw [hM]; exact hN.b.size) hM hK k⟩
  exact ⟨Up.below hN.b hu hN.b.size (by rw [hM]; exact hN.b.size)⟩
theorem fs_len (k : Int) : (fdsOf k).length ≤ 2 := by
  by_cases hk : known k = true
  · rcases known_cases hk with rfl | rfl | rfl | rfl | rfl | rfl | rfl | rfl | rfl | rfl | rfl | rfl | rfl <;> decide
  · rw [fdsOf_unknown (by simpa using hk)]; decide
/-- How long a request's bytes may be. -/
theorem put1_len {r : Rq} (hr : okRq r) (f : Fd) : (put1 r f).length ≤ 140737488351300 := by
  obtain ⟨_, f1⟩ := hr.flags
  obtain ⟨_, f2⟩ := hr.fd
  obtain ⟨_, f3⟩ := hr.pos
  obtain ⟨_, f4⟩ := hr.size
  have h1 := hr.path
  have h2 := hr.dst
  have h3 := hr.data
  have e : ∀ n : Nat, n < 18446744073709551616 → (numL n).length ≤ 9 := fun n hn => by rw [numL_length]; have := nb_le hn; omega
  cases f
  · have := e r.path.size (by omega); simp only [put1, txtB, List.length_append, strB_length]; omega
  · have := e r.flags.toNat (by omega); simp only [put1]; omega
  · have := e r.fd.toNat (by omega); simp only [put1]; omega
  · have := e r.pos.toNat (by omega); simp only [put1]; omega
  · have := e r.size.toNat (by omega); simp only [put1]; omega
  · have := e r.dst.size (by omega); simp only [put1, txtB, List.length_append, strB_length]; omega
  · have := e r.data.size (by omega); simp only [put1, txtB, List.length_append, strB_length]; omega

/-- The requests that are gone through: their texts are not great. -/
structure smallRq (r : Rq) : Prop where
  ok : okRq r
  sm : r.path.size + r.dst.size + r.data.size ≤ 100000
theorem put1_small {r : Rq} (hr : smallRq r) (f : Fd) : (put1 r f).length ≤ 100009 := by
  obtain ⟨_, f1⟩ := hr.ok.flags
  obtain ⟨_, f2⟩ := hr.ok.fd
  obtain ⟨_, f3⟩ := hr.ok.pos
  obtain ⟨_, f4⟩ := hr.ok.size
  have h1 := hr.sm
  have e : ∀ n : Nat, n < 18446744073709551616 → (numL n).length ≤ 9 := fun n hn => by rw [numL_length]; have := nb_le hn; omega
  cases f
  · have := e r.path.size (by omega); simp only [put1, txtB, List.length_append, strB_length]; omega
  · have := e r.flags.toNat (by omega); simp only [put1]; omega
  · have := e r.fd.toNat (by omega); simp only [put1]; omega
  · have := e r.pos.toNat (by omega); simp only [put1]; omega
  · have := e r.size.toNat (by omega); simp only [put1]; omega
  · have := e r.dst.size (by omega); simp only [put1, txtB, List.length_append, strB_length]; omega
  · have := e r.data.size (by omega); simp only [put1, txtB, List.length_append, strB_length]; omega
theorem puts_len {r : Rq} (hr : smallRq r) : ∀ l : List Fd, (l.flatMap (put1 r)).length ≤ l.length * 100009
  | [] => by simp
  | f :: l => by
    have h1 := put1_small hr f
    have h2 := puts_len hr l
    simp only [List.flatMap_cons, List.length_append, List.length_cons]
    omega
theorem putL_len {r : Rq} (hr : smallRq r) : (putL r).length ≤ 200019 := by
  have h1 := puts_len hr (fdsOf r.kind)
  have h2 := fs_len r.kind
  simp only [putL, List.length_cons]
  have : (fdsOf r.kind).length * 100009 ≤ 2 * 100009 := Nat.mul_le_mul_right _ h2
  omega
def putT (r : Rq) (j : Nat) : List Int := r.kind :: ((fdsOf r.kind).take j).flatMap (put1 r)
theorem putT_succ {r : Rq} {j : Nat} (h : j < (fdsOf r.kind).length) : putT r (j + 1) = putT r j ++ put1 r ((fdsOf r.kind)[j]?.getD .flags) := by
  unfold putT
  rw [List.take_succ_eq_append_getElem h, List.flatMap_append, List.getElem?_eq_getElem h]
  simp
theorem putT_all (r : Rq) : putT r (fdsOf r.kind).length = putL r := by unfold putT putL; rw [List.take_length]
theorem putT_len {r : Rq} (hr : smallRq r) (j : Nat) : (putT r j).length ≤ 200019 := by
  have h1 := puts_len hr ((fdsOf r.kind).take j)
  have h2 := fs_len r.kind
  have h3 : ((fdsOf r.kind).take j).length ≤ 2 := by rw [List.length_take]; omega
  simp only [putT, List.length_cons]
  have : ((fdsOf r.kind).take j).length * 100009 ≤ 2 * 100009 := Nat.mul_le_mul_right _ h3
  omega

def strF (r : Rq) : Fd → ByteArray
  | .path => r.path
  | .dst => r.dst
  | .data => r.data
  | _ => ByteArray.empty
def numF (r : Rq) : Fd → Int
  | .fd => r.fd
  | .pos => r.pos
  | .size => r.size
  | _ => 0
theorem str_cell {r : Rq} {f : Fd} (hf : isTxt f = true) (W : World) (b : Nat) (h : RqAt W b r) : W.cell? ⟨b, offF f, none⟩ = some (.string (strF r f)) := by
  cases f <;> first | (cases hf; done) | exact h.c5 | exact h.c6 | exact h.c7
theorem num_cell {r : Rq} {f : Fd} (hf : isTxt f = false) (hff : f ≠ .flags) (W : World) (b : Nat) (h : RqAt W b r) : W.cell? ⟨b, offF f, none⟩ = some (.int .u64 (numF r f)) := by
  cases f <;> first | (cases hf; done) | exact absurd rfl hff | exact h.c2 | exact h.c3 | exact h.c4
theorem numF_bd {r : Rq} (hr : okRq r) (f : Fd) : 0 ≤ numF r f ∧ numF r f ≤ 18446744073709551615 := by
  cases f <;> first | exact hr.fd | exact hr.pos | exact hr.size | simp [numF]
theorem strF_sz {r : Rq} (hr : smallRq r) (f : Fd) : (strF r f).size ≤ 100000 := by
  have := hr.sm
  cases f <;> simp only [strF] <;> first | omega | (rw [empty_size]; omega)
theorem putf_text {f : Fd} (hf : isTxt f = true) {r : Rq} (hr : smallRq r) {lo : Nat} {W : World} {p g : Value} (h : FieldIs lo W f p g) : ∃ B2 B, p = .func (.func 50) #[] #[.pointer (some ⟨B, 0, none⟩)] ∧ g = .func (.func 51) #[] #[.pointer (some ⟨B2, 0, none⟩), .pointer (some ⟨B, 0, none⟩)] ∧
    ∀ X, Nw W X → ∀ (a : Option Addr) (len cap : Nat) (zs : List Int), zs.length = len → len ≤ 300000 → Ints X.heap.size .u8 X a zs → Calls Try.prog 50 #[.slice a len cap, rqV r, .pointer (some ⟨B, 0, none⟩)] X (OwnR X (zs ++ put1 r f)) := by
  obtain ⟨B2, B, h1, h2, h3, h4, h5, h6⟩ := (fieldIs_text hf).1 h
  refine ⟨B2, B, h3, h4, fun X hN a len cap zs hl hlen hI => ?_⟩
  have h := put_text f (by rintro rfl; cases hf) (strF r f) r (fun W b h => str_cell hf W b h) B X ((hN.b.cell (p := ⟨B, 0, none⟩) (cell_lt h5).1).trans h5) a len cap zs hl (by have := strF_sz hr f; omega) hI
  have e : put1 r f = txtB (strF r f) := by cases f <;> first | (cases hf; done) | rfl
  rw [e]; exact h
theorem putf_num {f : Fd} (hf : isTxt f = false) (hff : f ≠ .flags) {r : Rq} (hr : smallRq r) {lo : Nat} {W : World} {p g : Value} (h : FieldIs lo W f p g) : ∃ B, p = .func (.func 53) #[] #[.pointer (some ⟨B, 0, none⟩)] ∧ g = .func (.func 54) #[] #[.pointer (some ⟨B, 0, none⟩)] ∧
    ∀ X, Nw W X → ∀ (a : Option Addr) (len cap : Nat) (zs : List Int), zs.length = len → len ≤ 300000 → Ints X.heap.size .u8 X a zs → Calls Try.prog 53 #[.slice a len cap, rqV r, .pointer (some ⟨B, 0, none⟩)] X (OwnR X (zs ++ put1 r f)) := by
  obtain ⟨B, h1, h3, h4, h5⟩ := (fieldIs_num hf hff).1 h
  refine ⟨B, h3, h4, fun X hN a len cap zs hl hlen hI => ?_⟩
  obtain ⟨b0, b1⟩ := numF_bd hr.ok f
  obtain ⟨n, hn⟩ : ∃ n : Nat, numF r f = (n : Int) := ⟨(numF r f).toNat, by omega⟩
  have h := put_num f hff n (by omega) r (fun W b h => by rw [← hn]; exact num_cell hf hff W b h) B X ((hN.b.cell (p := ⟨B, 0, none⟩) (cell_lt h5).1).trans h5) a len cap zs hl (by omega) hI
  have e : put1 r f = numL (numF r f).toNat := by cases f <;> first | (cases hf; done) | exact absurd rfl hff | rfl
  rw [e, hn]; exact h

theorem own_one (w : World) (k : IntKind) (x : Int) (t : TypeId) : (w.alloc (.cells #[.int k x] t)).ownsRow w.heap.size t 1 (.slice (some ⟨w.heap.size, 0, none⟩) 1 1) 1 [.int k x] :=
  ⟨rfl, .inr ⟨w.heap.size, 1, #[.int k x], rfl, Nat.le_refl _, heap_alloc_new _ _, by omega, by unfold maxLen; omega, rfl, by simp⟩⟩

set_option maxRecDepth 100000 in
set_option maxHeartbeats 8000000 in
theorem qput_any (r : Rq) (hr : smallRq r) (w : World) : Calls Try.prog 21 #[rqV r] w (OwnR w (putL r)) := by
  have R0 := RqAt.new w r
  have hn0 : Nw w (w.alloc (.cells #[.int .u8 r.kind, .int .u8 r.flags, .int .u64 r.fd, .int .u64 r.pos, .int .u64 r.size, .string r.path, .string r.dst, .string r.data] 24)) := Nw.refl.alloc _
  have c0 := R0.c0
  have HR := Lib.hid hr
  unfold rqV
  clear hr
  go_enter Try.func21, Try.ntmps21
  go_upto_region 2 with fail
  have ho := own_mono (b2 := w.heap.size) (by simp) (own_one (w.alloc (.cells #[.int .u8 r.kind, .int .u8 r.flags, .int .u64 r.fd, .int .u64 r.pos, .int .u64 r.size, .string r.path, .string r.dst, .string r.data] 24)) .u8 r.kind 5)
  have R1 := R0.nw (Nw.refl.alloc (.cells #[.int .u8 r.kind] 5))
  have hn1 := hn0.alloc (.cells #[.int .u8 r.kind] 5)
  rw [show (w.alloc (.cells #[.int .u8 r.kind, .int .u8 r.flags, .int .u64 r.fd, .int .u64 r.pos, .int .u64 r.size, .string r.path, .string r.dst, .string r.data] 24)).heap.size = w.heap.size + 1 from by simp] at ho
  generalize (w.alloc (.cells #[.int .u8 r.kind, .int .u8 r.flags, .int .u64 r.fd, .int .u64 r.pos, .int .u64 r.size, .string r.path, .string r.dst, .string r.data] 24)).alloc (.cells #[.int .u8 r.kind] 5) = W1 at ho R1 hn1 ⊢
  clear R0 hn0 c0
  have c0 := R1.c0
  have HO := Lib.hid ho
  have HR1 := Lib.hid R1
  have HN1 := Lib.hid hn1
  clear ho R1 hn1
  go_region_held3 (fun w' => w'.cell? ⟨w.heap.size, 0, none⟩ = some (.int .u8 r.kind))
    (first | (exact c0) | (exact (kx.b.cell (p := ⟨w.heap.size, 0, none⟩) (cell_lt c0).1).trans c0))
    ((go_at_call 32; refine (kinds_of r.kind _).mono ?_; rintro e w2 ⟨M, rfl, kx, sa, hS, hl1, hl2⟩))
  have hN2 := Lib.hid (HN1.out.trans (Nw.refl.drew.trans kx))
  have HR2 := Lib.hid (HR1.out.nw (Nw.refl.drew.trans kx))
  have HO2 := Lib.hid (own_below (Nw.refl.drew.trans kx).b HO.out)
  have HS2 := Lib.hid hS
  have HLEN := Lib.hid (fs_len r.kind)
  obtain ⟨n, hn⟩ : ∃ n, (fdsOf r.kind).length = n := ⟨_, rfl⟩
  rw [hn] at HLEN
  have HN := Lib.hid hn
  have hn2 := HLEN.out
  clear kx hS hl1 hl2 c0 HO HR1 HN1
  simp only [hn]
  clear hn
  go_wp2_with fail
  go_loopw [3, 14] (fun b i wr => ∃ j : Nat, j ≤ n ∧ i = .int .i64 j ∧ wr.ownsRow w.heap.size 5 1 b (putT r j).length ((putT r j).map (.int .u8)) ∧ Nw w2 wr) (fun _ i _ => n - (intOf i).toNat)
  case atStart => exact ⟨0, Nat.zero_le _, rfl, by simpa [putT] using HO2.out, Nw.refl⟩
  case round =>
    obtain ⟨j, hj, rfl, ho, hw⟩ := hrel
    clear HO2
    by_cases hlt : j < n
    · rcases HS2.out with ⟨h0, _⟩ | ⟨s, rfl, hlo, hcs⟩
      · rw [← HN.out, h0] at hlt; simp at hlt
      obtain ⟨p, g, cp, cg, hF⟩ := hcs j (by rw [HN.out]; exact hlt)
      have cp := (hw.b.cell (p := ⟨s, j * 2, none⟩) (cell_lt cp).1).trans cp
      have cg := (hw.b.cell (p := ⟨s, j * 2 + 1, none⟩) (cell_lt cg).1).trans cg
      have hF := hF.nw hw
      obtain ⟨ba, bc, rfl, _, hIb⟩ := Ints.of_owns ho
      have hlT := putT_len HR.out j
      have HPT := Lib.hid (putT_succ (r := r) (j := j) (by rw [HN.out]; exact hlt))
      have HSZ := Lib.hid (show w.heap.size ≤ (wr.alloc (.cells #[p, g] 61)).heap.size from Nat.le_trans hN2.out.b.size (Nat.le_trans hw.b.size (by simp)))
      rw [show (wr.alloc (.cells #[p, g] 61)).heap.size = wr.heap.size + 1 from by simp] at HSZ
      obtain ⟨f, hf⟩ : ∃ f, (fdsOf r.kind)[j]?.getD .flags = f := ⟨_, rfl⟩
      rw [hf] at hF HPT
      clear hcs hf ho
      by_cases ht : isTxt f = true
      · obtain ⟨B2, B, rfl, rfl, hC⟩ := putf_text ht HR.out hF
        have HC := Lib.hid hC
        clear hC hF ht
        have hC := HC.out (wr.alloc (.cells #[.func (.func 50) #[] #[.pointer (some ⟨B, 0, none⟩)], .func (.func 51) #[] #[.pointer (some ⟨B2, 0, none⟩), .pointer (some ⟨B, 0, none⟩)]] 61)) (Nw.refl.alloc _) ba (putT r j).length bc (putT r j) rfl (by omega) ((Nw.refl.alloc (.cells #[.func (.func 50) #[] #[.pointer (some ⟨B, 0, none⟩)], .func (.func 51) #[] #[.pointer (some ⟨B2, 0, none⟩), .pointer (some ⟨B, 0, none⟩)]] 61)).ints hIb)
        unfold rqV at hC
        have HC2 := Lib.hid hC
        clear hC
        obtain ⟨q0, q1, q2, q3, q4, q5, q6, q7, _⟩ := (HR2.out.nw hw).nw (Nw.refl.alloc (.cells #[.func (.func 50) #[] #[.pointer (some ⟨B, 0, none⟩)], .func (.func 51) #[] #[.pointer (some ⟨B2, 0, none⟩), .pointer (some ⟨B, 0, none⟩)]] 61))
        go_wp2_with fail
        refine HC2.out.mono ?_
        rintro e w5 ⟨v5, rfl, ho5, hw5⟩
        clear q0 q1 q2 q3 q4 q5 q6 q7 cp cg
        go_wp2_with fail
        go_roundw
        case rel => exact ⟨j + 1, by omega, by go_num, by rw [HPT.out]; exact own_mono (by simpa using HSZ.out) ho5, hw.trans ((Nw.refl.alloc _).trans hw5)⟩
        case measure => simp [intOf]; omega
      have ht' : isTxt f = false := by simpa using ht
      by_cases hff : f = .flags
      · subst hff
        obtain ⟨rfl, rfl⟩ := hF
        have HC := Lib.hid (fun (X : World) (hN : Nw wr X) (a : Option Addr) (len cap : Nat) (zs : List Int) (hl : zs.length = len) (hlen : len ≤ 300000) (hI : Ints X.heap.size .u8 X a zs) => put_flags r HR.out.ok.flags X a len cap zs hl (by omega) hI)
        clear ht ht'
        have hC := HC.out (wr.alloc (.cells #[.func (.func 47) #[] #[], .func (.func 48) #[] #[]] 61)) (Nw.refl.alloc _) ba (putT r j).length bc (putT r j) rfl (by omega) ((Nw.refl.alloc (.cells #[.func (.func 47) #[] #[], .func (.func 48) #[] #[]] 61)).ints hIb)
        unfold rqV at hC
        have HC2 := Lib.hid hC
        clear hC
        obtain ⟨q0, q1, q2, q3, q4, q5, q6, q7, _⟩ := (HR2.out.nw hw).nw (Nw.refl.alloc (.cells #[.func (.func 47) #[] #[], .func (.func 48) #[] #[]] 61))
        go_wp2_with fail
        refine HC2.out.mono ?_
        rintro e w5 ⟨v5, rfl, ho5, hw5⟩
        clear q0 q1 q2 q3 q4 q5 q6 q7 cp cg
        go_wp2_with fail
        go_roundw
        case rel => exact ⟨j + 1, by omega, by go_num, by rw [HPT.out]; exact own_mono (by simpa using HSZ.out) ho5, hw.trans ((Nw.refl.alloc _).trans hw5)⟩
        case measure => simp [intOf]; omega
      · obtain ⟨B, rfl, rfl, hC⟩ := putf_num ht' hff HR.out hF
        have HC := Lib.hid hC
        clear hC hF ht ht'
        have hC := HC.out (wr.alloc (.cells #[.func (.func 53) #[] #[.pointer (some ⟨B, 0, none⟩)], .func (.func 54) #[] #[.pointer (some ⟨B, 0, none⟩)]] 61)) (Nw.refl.alloc _) ba (putT r j).length bc (putT r j) rfl (by omega) ((Nw.refl.alloc (.cells #[.func (.func 53) #[] #[.pointer (some ⟨B, 0, none⟩)], .func (.func 54) #[] #[.pointer (some ⟨B, 0, none⟩)]] 61)).ints hIb)
        unfold rqV at hC
        have HC2 := Lib.hid hC
        clear hC
        obtain ⟨q0, q1, q2, q3, q4, q5, q6, q7, _⟩ := (HR2.out.nw hw).nw (Nw.refl.alloc (.cells #[.func (.func 53) #[] #[.pointer (some ⟨B, 0, none⟩)], .func (.func 54) #[] #[.pointer (some ⟨B, 0, none⟩)]] 61))
        go_wp2_with fail
        refine HC2.out.mono ?_
        rintro e w5 ⟨v5, rfl, ho5, hw5⟩
        clear q0 q1 q2 q3 q4 q5 q6 q7 cp cg
        go_wp2_with fail
        go_roundw
        case rel => exact ⟨j + 1, by omega, by go_num, by rw [HPT.out]; exact own_mono (by simpa using HSZ.out) ho5, hw.trans ((Nw.refl.alloc _).trans hw5)⟩
        case measure => simp [intOf]; omega
    · obtain rfl : j = n := by omega
      have HPA := Lib.hid (show putT r j = putL r from by rw [← HN.out]; exact putT_all r)
      have HO := Lib.hid ho
      clear ho
      go_wp2_with fail
      go_ret
      exact ⟨_, rfl, by rw [← HPA.out]; exact HO.out, hN2.out.trans hw⟩

end Go.Proofs.Ytphcdndohdnolaa
