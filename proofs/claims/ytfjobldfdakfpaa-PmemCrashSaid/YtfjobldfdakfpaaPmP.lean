/-
  PUTS: as arguments, and what they do; filled.
-/
import Derived.Test.YtfjobldfdakfpaaPmI
import Derived.Test.YtfjobldfdakfpaaOpen
namespace Go.Proofs.Ytfjobldfdakfpaa
open Go.ChangeShapes Go.WideShapes Go.Deep Go.RowKit Go.Shelf
set_option linter.unusedVariables false

structure Pt where
  q : Nat
  v : Int
  fl : Bool
def ptC (x : Pt) : List Value := [.int .u8 x.q, .int .u64 x.v, .bool x.fl]
def ptOk (x : Pt) : Prop := x.q ≤ 255 ∧ 0 ≤ x.v ∧ x.v ≤ 18446744073709551615
theorem u64_of_wf {n : Int} (h : (Lit.int .u64 n).wf = true) : 0 ≤ n ∧ n ≤ 18446744073709551615 := by
  simp [Lit.wf, IntKind.min, IntKind.max, IntKind.bits, IntKind.signed] at h
  omega
theorem u8_of_wf {n : Int} (h : (Lit.int .u8 n).wf = true) : 0 ≤ n ∧ n ≤ 255 := by
  simp [Lit.wf, IntKind.min, IntKind.max, IntKind.bits, IntKind.signed] at h
  omega
theorem puts_of {H : Type} {enc : TypeId × Value → H} {P : Program} {w : World} {base : Nat} {spare : Nat → Bool} {held : Bool} {fs : Array Field} {f0 f1 f2 : Field} (h0 : fs[0]? = some f0) (h1 : fs[1]? = some f1) (h2 : fs[2]? = some f2) (hn : fs.size = 3)
    (u0 : P.underlying f0.type = some (.int .u8)) (u1 : P.underlying f1.type = some (.int .u64)) (u2 : P.underlying f2.type = some .bool) {a : Option Addr} {len : Nat}
    (h : len = 0 ∨ ∃ b off, a = some ⟨b, off, none⟩ ∧ b < w.heap.size ∧ ∀ i, i < len → RecAt enc P w base spare held fs b off i) :
    ∃ ss : List Pt, ss.length = len ∧ Recs ptC 3 w.heap.size w a ss ∧ ∀ x ∈ ss, ptOk x :=
  recs_make ptC 3 w.heap.size w a len ptOk (by
    rcases h with h | ⟨b, off, e, hb, hi⟩
    · exact .inl h
    · refine .inr ⟨b, off, e, hb, fun i hil => ?_⟩
      obtain ⟨v0, n0, y0, c0, t0⟩ := hi i hil 0 f0 h0
      obtain ⟨v1, n1, y1, c1, t1⟩ := hi i hil 1 f1 h1
      obtain ⟨v2, n2, y2, c2, t2⟩ := hi i hil 2 f2 h2
      obtain ⟨z0, q0, _, g0⟩ := DataW.trod_int u0 t0
      obtain ⟨z1, q1, _, g1⟩ := DataW.trod_int u1 t1
      obtain ⟨z2, q2, _⟩ := DataW.trod_bool u2 t2
      obtain rfl : v0 = .int .u8 z0 := by simpa using q0
      obtain rfl : v1 = .int .u64 z1 := by simpa using q1
      obtain rfl : v2 = .bool z2 := by simpa using q2
      obtain ⟨r0, r1⟩ := u8_of_wf g0
      obtain ⟨q, rfl⟩ := Int.eq_ofNat_of_zero_le r0
      rw [hn] at c0 c1 c2
      refine ⟨⟨q, z1, z2⟩, ⟨by show q ≤ 255; omega, (u64_of_wf g1).1, (u64_of_wf g1).2⟩, fun j v hv => ?_⟩
      match j, hv with
      | 0, hv => simp [ptC] at hv; subst hv; exact c0
      | 1, hv => simp [ptC] at hv; subst hv; exact c1
      | 2, hv => simp [ptC] at hv; subst hv; exact c2)
theorem puts_at {n₀ : Nat} {W : World} {a : Option Addr} {ss : List Pt} (h : Recs ptC 3 n₀ W a ss) {k : Nat} (hk : k < ss.length) : ∃ b off, a = some ⟨b, off, none⟩ ∧ b < n₀ ∧ W.cell? ⟨b, off + k * 3, none⟩ = some (.int .u8 ss[k].q) ∧ W.cell? ⟨b, off + k * 3 + 1, none⟩ = some (.int .u64 ss[k].v) ∧ W.cell? ⟨b, off + k * 3 + 2, none⟩ = some (.bool ss[k].fl) := by
  rcases h with rfl | ⟨b, off, rfl, hb, hc⟩
  · simp at hk
  · exact ⟨b, off, rfl, hb, hc k hk 0 _ rfl, hc k hk 1 _ rfl, hc k hk 2 _ rfl⟩

def flushL (i : Nat) (f : Nat → Wd) : Nat → Wd := if i = 0 then gone (fun _ => flushW) 0 0 (looseL 8 (fun k => (f (0 + k)).loose) 8) f else gone (fun _ => flushW) 8 0 (looseL 8 (fun k => (f (8 + k)).loose) 8) f
def doPt (f : Nat → Wd) (x : Pt) : Nat → Wd := if x.fl then flushL (x.q % 16 / 8) f else upd f (x.q % 16) (storeW (f (x.q % 16)) x.v)
def filledL (l : List Pt) : Nat → Wd := l.foldl doPt (fun _ => zeroW)
theorem filledL_succ (l : List Pt) (k : Nat) (h : k < l.length) : filledL (l.take (k + 1)) = doPt (filledL (l.take k)) l[k] := by
  unfold filledL
  rw [List.take_succ_eq_append_getElem h, List.foldl_append]; rfl
theorem flush_any (d b : Nat) (f : Nat → Wd) (i : Nat) (hi : i < 2) (w : World) (h : DevAt w d b f) :
    Calls Try.prog 18 #[.pointer (some ⟨d, 0, none⟩), .int .i64 (i : Int)] w (DevG w d b (flushL i f)) := by
  obtain rfl | rfl : i = 0 ∨ i = 1 := by omega
  · exact flush_0 d b f w h
  · exact flush_1 d b f w h
def FilledD (l : List Pt) (w : World) (e : Ending) (w' : World) : Prop := ∃ d b, e = .returned (.tuple #[.pointer (some ⟨d, 0, none⟩), .bool true]) ∧ DevAt w' d b (filledL l) ∧ Nw w w' ∧ w.heap.size ≤ b ∧ w.heap.size ≤ d
theorem rem16 (q : Nat) : (q : Int).tmod 16 = ((q % 16 : Nat) : Int) := by
  rw [Int.tmod_eq_emod_of_nonneg (by omega)]; omega
theorem quo8 (q : Nat) : (q : Int).tdiv 8 = ((q / 8 : Nat) : Int) := by
  rw [Int.tdiv_eq_ediv_of_nonneg (by omega)]; omega
set_option maxRecDepth 100000 in
set_option maxHeartbeats 4000000 in
theorem filled_any (a : Option Addr) (len cap : Nat) (l : List Pt) (hl : l.length = len) (h60 : len ≤ 60) (hq : ∀ x ∈ l, ptOk x) (w : World) (hI : Recs ptC 3 w.heap.size w a l) :
    Calls Try.prog 9 #[.slice a len cap] w (FilledD l w) := by
  subst hl
  go_enter Try.func9, Try.ntmps9
  go_wp2_with fail
  refine (new_yes _).mono ?_
  rintro e w1 ⟨d, b, rfl, hD, hN, hb, hd⟩
  have HIW := Lib.hid hI
  have HQ := Lib.hid hq
  clear hI hq
  go_wp2_with fail
  go_loopw [6] (fun i wr => ∃ k : Nat, k ≤ l.length ∧ i = .int .i64 k ∧ DevAt wr d b (filledL (l.take k)) ∧ Nw w wr) (fun i _ => l.length - (intOf i).toNat)
  case atStart => exact ⟨0, by omega, rfl, hD, hN⟩
  case round =>
    clear hD hN
    obtain ⟨k, hk, rfl, hD, hN⟩ := hrel
    have HD := Lib.hid hD
    have HN := Lib.hid hN
    by_cases hlt : k < l.length
    · obtain ⟨ib, io, rfl, hib, g0, g1, g2⟩ := puts_at HIW.out hlt
      have HS := Lib.hid (filledL_succ l k hlt)
      obtain ⟨hq8, hv0, hv1⟩ := HQ.out _ (List.getElem_mem hlt)
      obtain ⟨x, hx⟩ : ∃ x, l[k] = x := ⟨_, rfl⟩
      rw [hx] at g0 g1 g2 HS hq8 hv0 hv1
      replace g0 := (hN.b.cell (p := ⟨ib, io + k * 3, none⟩) hib).trans g0
      replace g1 := (hN.b.cell (p := ⟨ib, io + k * 3 + 1, none⟩) hib).trans g1
      replace g2 := (hN.b.cell (p := ⟨ib, io + k * 3 + 2, none⟩) hib).trans g2
      clear hx hD hN
      cases hf : x.fl
      · rw [hf] at g2
        have HF := Lib.hid (show doPt (filledL (l.take k)) x = upd (filledL (l.take k)) (x.q % 16) (storeW (filledL (l.take k) (x.q % 16)) x.v) by rw [doPt, hf]; rfl)
        clear hf
        go_wp2_with fail
        rw [show ((x.q : Int) % 16) = ((x.q % 16 : Nat) : Int) from by omega]
        refine (store_any d b _ (x.q % 16) (by omega) x.v _ HD.out).mono ?_
        rintro e w2 ⟨rfl, hD, hu⟩
        have HD2 := Lib.hid hD
        have HN2 := Lib.hid (HN.out.up hu hb)
        clear hD hu
        go_wp2_with fail
        go_roundw
        case rel => exact ⟨k + 1, by omega, by go_num, by rw [HS.out, HF.out]; exact HD2.out, HN2.out⟩
        case measure => simp [intOf]; omega
      · rw [hf] at g2
        have HF := Lib.hid (show doPt (filledL (l.take k)) x = flushL (x.q % 16 / 8) (filledL (l.take k)) by rw [doPt, hf]; rfl)
        clear hf
        go_wp2_with fail
        rw [show ((x.q : Int) % 16 / 8) = ((x.q % 16 / 8 : Nat) : Int) from by omega]
        refine (flush_any d b _ (x.q % 16 / 8) (by omega) _ HD.out).mono ?_
        rintro e w2 ⟨rfl, hD, hu⟩
        have HD2 := Lib.hid hD
        have HN2 := Lib.hid (HN.out.up hu hb)
        clear hD hu
        go_wp2_with fail
        go_roundw
        case rel => exact ⟨k + 1, by omega, by go_num, by rw [HS.out, HF.out]; exact HD2.out, HN2.out⟩
        case measure => simp [intOf]; omega
    · obtain rfl : k = l.length := by omega
      go_wp2_with fail
      go_ret2
      exact ⟨d, b, rfl, by have := HD.out; rwa [List.take_length] at this, HN.out, hb, hd⟩

end Go.Proofs.Ytfjobldfdakfpaa
