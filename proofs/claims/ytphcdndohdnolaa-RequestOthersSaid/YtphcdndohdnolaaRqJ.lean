/-
  THE WALK OF request.kinds.
-/
import Derived.Deep.DeepCutAuto
import Derived.Carry
import Derived.Test.YtphcdndohdnolaaRqH
namespace Go.Proofs.Ytphcdndohdnolaa
open Go.RowKit Go.Shelf
set_option linter.unusedVariables false

theorem FieldIs.upHeap {lo : Nat} {w w' : World} {f : Fd} {p g : Value} (h : FieldIs lo w f p g) (k : Up w.heap.size w w') : FieldIs lo w' f p g := by
  by_cases hf : isTxt f = true
  · obtain ⟨B2, B, h1, h2, h3, h4, h5, h6⟩ := (fieldIs_text hf).1 h
    have l5 := (cell_lt h5).1
    have l6 := (cell_lt h6).1
    exact (fieldIs_text hf).2 ⟨B2, B, h1, h2, h3, h4, k.cell h5 (Nat.ne_of_lt l5), k.cell h6 (Nat.ne_of_lt l6)⟩
  · have hf' : isTxt f = false := by simpa using hf
    by_cases hff : f = .flags
    · subst hff; exact h
    · obtain ⟨B, h1, h2, h3, h4⟩ := (fieldIs_num hf' hff).1 h
      exact (fieldIs_num hf' hff).2 ⟨B, h1, h2, h3, k.cell h4 (Nat.ne_of_lt (cell_lt h4).1)⟩

/-- A slice of fields, made behind the block M. -/
def FieldsAt (lo : Nat) (W8 X : World) (M : Nat) (v : Value) (fs : List Fd) : Prop :=
  ∃ b, v = .slice (some ⟨b, 0, none⟩) fs.length fs.length ∧ M < b ∧ b < X.heap.size ∧ ∀ j, j < fs.length → ∃ p g, X.cell? ⟨b, j * 2, none⟩ = some p ∧ X.cell? ⟨b, j * 2 + 1, none⟩ = some g ∧ FieldIs lo W8 (fs[j]?.getD .flags) p g
theorem FieldsAt.up {lo : Nat} {W8 X X' : World} {M : Nat} {v : Value} {fs : List Fd} (h : FieldsAt lo W8 X M v fs) (k : Up M X X') : FieldsAt lo W8 X' M v fs := by
  obtain ⟨b, h1, h2, h3, h4⟩ := h
  refine ⟨b, h1, h2, Nat.lt_of_lt_of_le h3 k.size, fun j hj => ?_⟩
  obtain ⟨p, g, c1, c2, hf⟩ := h4 j hj
  exact ⟨p, g, k.cell c1 (Nat.ne_of_gt h2), k.cell c2 (Nat.ne_of_gt h2), hf⟩
/-- What has been filled in. -/
def KI (lo : Nat) (W8 X : World) (M : Nat) (l : List (Int × List Fd)) : Prop :=
  Up M W8 X ∧ ∃ vs : List (Int × Value), vs.map (·.1) = l.map (·.1) ∧ KMap X M vs ∧ ∀ i, i < l.length → ∃ v, vs[i]? = some ((l[i]?.getD (0, [])).1, v) ∧ FieldsAt lo W8 X M v (l[i]?.getD (0, [])).2
theorem KI.made (lo : Nat) (W8 : World) : KI lo W8 (W8.alloc (.map #[] 0)) W8.heap.size [] := ⟨Up.of_nw (Nw.refl.alloc _), [], rfl, KMap.made W8, fun i hi => by simp at hi⟩
theorem KI.lt {lo : Nat} {W8 X : World} {M : Nat} {l : List (Int × List Fd)} (h : KI lo W8 X M l) : M < X.heap.size := by
  obtain ⟨_, vs, _, h, _⟩ := h
  exact h.lt
theorem KI.step {P : Program} {lo : Nat} {W8 X w : World} {M : Nat} {l : List (Int × List Fd)} (t k e : TypeId) (ht : P.underlying t = some (.map k e)) (hk : P.underlying k = some (.int .u8))
    (h : KI lo W8 X M l) (hX : Nw X w) (key : Int) (fs : List Fd) (val : Value) (hf : FieldsAt lo W8 w M val fs) (hne : ∀ y ∈ l.map (·.1), y ≠ key) :
    ∃ w', (Instr.mapUpdate t (.map (some M)) (.int .u8 key) val).run P w = .ok () w' ∧ KI lo W8 w' M (l ++ [(key, fs)]) := by
  obtain ⟨hU, vs, h1, h2, h3⟩ := h
  obtain ⟨w', hrun, hk', hg'⟩ := (h2.nw hX).insert ht hk key (fun y hy => hne _ (by rw [← h1]; exact List.mem_map.2 ⟨y, hy, rfl⟩)) val
  have hu : Up M w w' := ⟨hg'.os, hg'.tape, hg'.output, hg'.size, fun i hi hn => hg'.block i hi (by simpa using hn)⟩
  have hlen : vs.length = l.length := by have := congrArg List.length h1; simpa using this
  refine ⟨w', hrun, (hU.nw hX).trans hu, vs ++ [(key, val)], by simp [h1], hk', ?_⟩
  intro i hi
  by_cases hl : i < l.length
  · obtain ⟨v', e, hff⟩ := h3 i hl
    rw [List.getElem?_append_left hl, List.getElem?_append_left (by omega)]
    exact ⟨v', e, (hff.up (Up.of_nw hX)).up hu⟩
  · have : i = l.length := by simp at hi; omega
    subst this
    rw [List.getElem?_append_right (by omega), List.getElem?_append_right (by omega), hlen]
    simp only [Nat.sub_self, List.getElem?_cons_zero, Option.getD_some]
    exact ⟨val, rfl, hf.up hu⟩
theorem fields_one {lo : Nat} {W8 X : World} {M : Nat} {f : Fd} {p g : Value} (hM : M < X.heap.size) (hf : FieldIs lo W8 f p g) (t : TypeId) : FieldsAt lo W8 (X.alloc (.cells #[p, g] t)) M (.slice (some ⟨X.heap.size, 0, none⟩) 1 1) [f] :=
  ⟨X.heap.size, rfl, hM, by simp, fun j hj => by
    obtain rfl : j = 0 := by simp at hj; omega
    exact ⟨p, g, by simp [go_sem], by simp [go_sem], hf⟩⟩
theorem fields_two {lo : Nat} {W8 X : World} {M : Nat} {f f' : Fd} {p g p' g' : Value} (hM : M < X.heap.size) (hf : FieldIs lo W8 f p g) (hf' : FieldIs lo W8 f' p' g') (t : TypeId) : FieldsAt lo W8 (X.alloc (.cells #[p, g, p', g'] t)) M (.slice (some ⟨X.heap.size, 0, none⟩) 2 2) [f, f'] :=
  ⟨X.heap.size, rfl, hM, by simp, fun j hj => by
    have : j = 0 ∨ j = 1 := by simp at hj; omega
    rcases this with rfl | rfl
    · exact ⟨p, g, by simp [go_sem], by simp [go_sem], hf⟩
    · exact ⟨p', g', by simp [go_sem], by simp [go_sem], hf'⟩⟩

def tpV (B : Nat) : Value := .func (.func 50) #[] #[.pointer (some ⟨B, 0, none⟩)]
def tgV (B2 B : Nat) : Value := .func (.func 51) #[] #[.pointer (some ⟨B2, 0, none⟩), .pointer (some ⟨B, 0, none⟩)]
def npV (B : Nat) : Value := .func (.func 53) #[] #[.pointer (some ⟨B, 0, none⟩)]
def ngV (B : Nat) : Value := .func (.func 54) #[] #[.pointer (some ⟨B, 0, none⟩)]
theorem FldR.text {f : Fd} (hf : isTxt f = true) {w w' : World} {e : Ending} (h : FldR f w e w') : ∃ B2 B, e = .returned (.agg #[.func (.func 50) #[] #[.pointer (some ⟨B, 0, none⟩)], .func (.func 51) #[] #[.pointer (some ⟨B2, 0, none⟩), .pointer (some ⟨B, 0, none⟩)]]) ∧ FieldIs w.heap.size w' f (tpV B) (tgV B2 B) ∧ Nw w w' := by
  obtain ⟨p, g, he, hF, hN⟩ := h
  have hF2 := hF
  obtain ⟨B2, B, h1, h2, rfl, rfl, _⟩ := (fieldIs_text hf).1 hF2
  exact ⟨B2, B, he, hF, hN⟩
theorem FldR.num {f : Fd} (hf : isTxt f = false) (hff : f ≠ .flags) {w w' : World} {e : Ending} (h : FldR f w e w') : ∃ B, e = .returned (.agg #[.func (.func 53) #[] #[.pointer (some ⟨B, 0, none⟩)], .func (.func 54) #[] #[.pointer (some ⟨B, 0, none⟩)]]) ∧ FieldIs w.heap.size w' f (npV B) (ngV B) ∧ Nw w w' := by
  obtain ⟨p, g, he, hF, hN⟩ := h
  have hF2 := hF
  obtain ⟨B, h1, rfl, rfl, _⟩ := (fieldIs_num hf hff).1 hF2
  exact ⟨B, he, hF, hN⟩

/-- The kinds' table. -/
def kindsL : List (Int × List Fd) := [(1, [.path, .flags]), (2, [.fd]), (3, [.fd, .size]), (4, [.fd, .data]), (5, [.fd, .pos]), (6, [.fd, .pos]), (13, [.path, .pos]), (7, [.path]), (8, [.path]), (9, [.path]), (11, [.path]), (10, [.path, .dst]), (12, [.path, .dst])]
def KindsR (w : World) (e : Ending) (w' : World) : Prop := ∃ W8 M, e = .returned (.map (some M)) ∧ Nw w W8 ∧ M = W8.heap.size ∧ KI w.heap.size W8 w' M kindsL

set_option maxRecDepth 100000 in
set_option maxHeartbeats 8000000 in
theorem kinds_any (w : World) : Calls Try.prog 32 #[] w (KindsR w) := by
  have hmm := @run_makeMap Try.prog
  have HC1 := Lib.hid (fun X => show Calls Try.prog 39 #[.int .i64 200, .func (.func 40) #[] #[]] X (FldR .path X) from mk_text .path rfl X)
  have HC2 := Lib.hid (fun X => show Calls Try.prog 39 #[.int .i64 200, .func (.func 41) #[] #[]] X (FldR .dst X) from mk_text .dst rfl X)
  have HC3 := Lib.hid (fun X => show Calls Try.prog 39 #[.int .i64 128, .func (.func 42) #[] #[]] X (FldR .data X) from mk_text .data rfl X)
  have HC4 := Lib.hid (fun X => show Calls Try.prog 43 #[.func (.func 44) #[] #[]] X (FldR .fd X) from mk_num .fd rfl (by decide) X)
  have HC5 := Lib.hid (fun X => show Calls Try.prog 43 #[.func (.func 45) #[] #[]] X (FldR .pos X) from mk_num .pos rfl (by decide) X)
  have HC6 := Lib.hid (fun X => show Calls Try.prog 43 #[.func (.func 46) #[] #[]] X (FldR .size X) from mk_num .size rfl (by decide) X)
  go_enter Try.func32, Try.ntmps32
  have HN0 := Lib.hid (Nw.refl (w := w))
  go_wp2_with fail
  refine (HC1.out _).mono ?_
  intro e v1 h1
  obtain ⟨C1, B1, rfl, hF1, hN1⟩ := h1.text rfl
  go_upto_region 2 with fail
  have HN1 := Lib.hid ((HN0.out.trans hN1).alloc (.cells #[.func (.func 50) #[] #[.pointer (some ⟨B1, 0, none⟩)], .func (.func 51) #[] #[.pointer (some ⟨C1, 0, none⟩), .pointer (some ⟨B1, 0, none⟩)]] 61))
  have HF1 := Lib.hid ((hF1.mono HN0.out.b.size).nw (Nw.refl.alloc (.cells #[.func (.func 50) #[] #[.pointer (some ⟨B1, 0, none⟩)], .func (.func 51) #[] #[.pointer (some ⟨C1, 0, none⟩), .pointer (some ⟨B1, 0, none⟩)]] 61)))
  have HA1 := Lib.hid (show (v1.alloc (.cells #[.func (.func 50) #[] #[.pointer (some ⟨B1, 0, none⟩)], .func (.func 51) #[] #[.pointer (some ⟨C1, 0, none⟩), .pointer (some ⟨B1, 0, none⟩)]] 61)).cell? ⟨v1.heap.size, 0, none⟩ = some (tpV B1) ∧ (v1.alloc (.cells #[.func (.func 50) #[] #[.pointer (some ⟨B1, 0, none⟩)], .func (.func 51) #[] #[.pointer (some ⟨C1, 0, none⟩), .pointer (some ⟨B1, 0, none⟩)]] 61)).cell? ⟨v1.heap.size, 1, none⟩ = some (tgV C1 B1) from ⟨by simp [go_sem, tpV], by simp [go_sem, tgV]⟩)
  have HD1 := Lib.hid (hN1.alloc (.cells #[.func (.func 50) #[] #[.pointer (some ⟨B1, 0, none⟩)], .func (.func 51) #[] #[.pointer (some ⟨C1, 0, none⟩), .pointer (some ⟨B1, 0, none⟩)]] 61))
  generalize v1.alloc (.cells #[.func (.func 50) #[] #[.pointer (some ⟨B1, 0, none⟩)], .func (.func 51) #[] #[.pointer (some ⟨C1, 0, none⟩), .pointer (some ⟨B1, 0, none⟩)]] 61) = w1 at HN1 HF1 HA1 HD1 ⊢
  generalize v1.heap.size = b1 at HA1 ⊢
  clear hF1 hN1 h1 HC1
  go_wp2_with fail
  refine (HC2.out _).mono ?_
  intro e v2 h2
  obtain ⟨C2, B2, rfl, hF2, hN2⟩ := h2.text rfl
  go_upto_region 3 with fail
  have HN2 := Lib.hid ((HN1.out.trans hN2).alloc (.cells #[.func (.func 50) #[] #[.pointer (some ⟨B2, 0, none⟩)], .func (.func 51) #[] #[.pointer (some ⟨C2, 0, none⟩), .pointer (some ⟨B2, 0, none⟩)]] 61))
  have HF2 := Lib.hid ((hF2.mono HN1.out.b.size).nw (Nw.refl.alloc (.cells #[.func (.func 50) #[] #[.pointer (some ⟨B2, 0, none⟩)], .func (.func 51) #[] #[.pointer (some ⟨C2, 0, none⟩), .pointer (some ⟨B2, 0, none⟩)]] 61)))
  have HA2 := Lib.hid (show (v2.alloc (.cells #[.func (.func 50) #[] #[.pointer (some ⟨B2, 0, none⟩)], .func (.func 51) #[] #[.pointer (some ⟨C2, 0, none⟩), .pointer (some ⟨B2, 0, none⟩)]] 61)).cell? ⟨v2.heap.size, 0, none⟩ = some (tpV B2) ∧ (v2.alloc (.cells #[.func (.func 50) #[] #[.pointer (some ⟨B2, 0, none⟩)], .func (.func 51) #[] #[.pointer (some ⟨C2, 0, none⟩), .pointer (some ⟨B2, 0, none⟩)]] 61)).cell? ⟨v2.heap.size, 1, none⟩ = some (tgV C2 B2) from ⟨by simp [go_sem, tpV], by simp [go_sem, tgV]⟩)
  have HD2 := Lib.hid (hN2.alloc (.cells #[.func (.func 50) #[] #[.pointer (some ⟨B2, 0, none⟩)], .func (.func 51) #[] #[.pointer (some ⟨C2, 0, none⟩), .pointer (some ⟨B2, 0, none⟩)]] 61))
  generalize v2.alloc (.cells #[.func (.func 50) #[] #[.pointer (some ⟨B2, 0, none⟩)], .func (.func 51) #[] #[.pointer (some ⟨C2, 0, none⟩), .pointer (some ⟨B2, 0, none⟩)]] 61) = w2 at HN2 HF2 HA2 HD2 ⊢
  generalize v2.heap.size = b2 at HA2 ⊢
  clear hF2 hN2 h2 HC2
  go_wp2_with fail
  refine (HC3.out _).mono ?_
  intro e v3 h3
  obtain ⟨C3, B3, rfl, hF3, hN3⟩ := h3.text rfl
  go_upto_region 4 with fail
  have HN3 := Lib.hid ((HN2.out.trans hN3).alloc (.cells #[.func (.func 50) #[] #[.pointer (some ⟨B3, 0, none⟩)], .func (.func 51) #[] #[.pointer (some ⟨C3, 0, none⟩), .pointer (some ⟨B3, 0, none⟩)]] 61))
  have HF3 := Lib.hid ((hF3.mono HN2.out.b.size).nw (Nw.refl.alloc (.cells #[.func (.func 50) #[] #[.pointer (some ⟨B3, 0, none⟩)], .func (.func 51) #[] #[.pointer (some ⟨C3, 0, none⟩), .pointer (some ⟨B3, 0, none⟩)]] 61)))
  have HA3 := Lib.hid (show (v3.alloc (.cells #[.func (.func 50) #[] #[.pointer (some ⟨B3, 0, none⟩)], .func (.func 51) #[] #[.pointer (some ⟨C3, 0, none⟩), .pointer (some ⟨B3, 0, none⟩)]] 61)).cell? ⟨v3.heap.size, 0, none⟩ = some (tpV B3) ∧ (v3.alloc (.cells #[.func (.func 50) #[] #[.pointer (some ⟨B3, 0, none⟩)], .func (.func 51) #[] #[.pointer (some ⟨C3, 0, none⟩), .pointer (some ⟨B3, 0, none⟩)]] 61)).cell? ⟨v3.heap.size, 1, none⟩ = some (tgV C3 B3) from ⟨by simp [go_sem, tpV], by simp [go_sem, tgV]⟩)
  have HD3 := Lib.hid (hN3.alloc (.cells #[.func (.func 50) #[] #[.pointer (some ⟨B3, 0, none⟩)], .func (.func 51) #[] #[.pointer (some ⟨C3, 0, none⟩), .pointer (some ⟨B3, 0, none⟩)]] 61))
  generalize v3.alloc (.cells #[.func (.func 50) #[] #[.pointer (some ⟨B3, 0, none⟩)], .func (.func 51) #[] #[.pointer (some ⟨C3, 0, none⟩), .pointer (some ⟨B3, 0, none⟩)]] 61) = w3 at HN3 HF3 HA3 HD3 ⊢
  generalize v3.heap.size = b3 at HA3 ⊢
  clear hF3 hN3 h3 HC3
  go_wp2_with fail
  refine (HC4.out _).mono ?_
  intro e v4 h4
  obtain ⟨B4, rfl, hF4, hN4⟩ := h4.num rfl (by decide)
  go_upto_region 5 with fail
  have HN4 := Lib.hid ((HN3.out.trans hN4).alloc (.cells #[.func (.func 53) #[] #[.pointer (some ⟨B4, 0, none⟩)], .func (.func 54) #[] #[.pointer (some ⟨B4, 0, none⟩)]] 61))
  have HF4 := Lib.hid ((hF4.mono HN3.out.b.size).nw (Nw.refl.alloc (.cells #[.func (.func 53) #[] #[.pointer (some ⟨B4, 0, none⟩)], .func (.func 54) #[] #[.pointer (some ⟨B4, 0, none⟩)]] 61)))
  have HA4 := Lib.hid (show (v4.alloc (.cells #[.func (.func 53) #[] #[.pointer (some ⟨B4, 0, none⟩)], .func (.func 54) #[] #[.pointer (some ⟨B4, 0, none⟩)]] 61)).cell? ⟨v4.heap.size, 0, none⟩ = some (npV B4) ∧ (v4.alloc (.cells #[.func (.func 53) #[] #[.pointer (some ⟨B4, 0, none⟩)], .func (.func 54) #[] #[.pointer (some ⟨B4, 0, none⟩)]] 61)).cell? ⟨v4.heap.size, 1, none⟩ = some (ngV B4) from ⟨by simp [go_sem, npV], by simp [go_sem, ngV]⟩)
  have HD4 := Lib.hid (hN4.alloc (.cells #[.func (.func 53) #[] #[.pointer (some ⟨B4, 0, none⟩)], .func (.func 54) #[] #[.pointer (some ⟨B4, 0, none⟩)]] 61))
  generalize v4.alloc (.cells #[.func (.func 53) #[] #[.pointer (some ⟨B4, 0, none⟩)], .func (.func 54) #[] #[.pointer (some ⟨B4, 0, none⟩)]] 61) = w4 at HN4 HF4 HA4 HD4 ⊢
  generalize v4.heap.size = b4 at HA4 ⊢
  clear hF4 hN4 h4 HC4
  go_wp2_with fail
  refine (HC5.out _).mono ?_
  intro e v5 h5
  obtain ⟨B5, rfl, hF5, hN5⟩ := h5.num rfl (by decide)
  go_upto_region 6 with fail
  have HN5 := Lib.hid ((HN4.out.trans hN5).alloc (.cells #[.func (.func 53) #[] #[.pointer (some ⟨B5, 0, none⟩)], .func (.func 54) #[] #[.pointer (some ⟨B5, 0, none⟩)]] 61))
  have HF5 := Lib.hid ((hF5.mono HN4.out.b.size).nw (Nw.refl.alloc (.cells #[.func (.func 53) #[] #[.pointer (some ⟨B5, 0, none⟩)], .func (.func 54) #[] #[.pointer (some ⟨B5, 0, none⟩)]] 61)))
  have HA5 := Lib.hid (show (v5.alloc (.cells #[.func (.func 53) #[] #[.pointer (some ⟨B5, 0, none⟩)], .func (.func 54) #[] #[.pointer (some ⟨B5, 0, none⟩)]] 61)).cell? ⟨v5.heap.size, 0, none⟩ = some (npV B5) ∧ (v5.alloc (.cells #[.func (.func 53) #[] #[.pointer (some ⟨B5, 0, none⟩)], .func (.func 54) #[] #[.pointer (some ⟨B5, 0, none⟩)]] 61)).cell? ⟨v5.heap.size, 1, none⟩ = some (ngV B5) from ⟨by simp [go_sem, npV], by simp [go_sem, ngV]⟩)
  have HD5 := Lib.hid (hN5.alloc (.cells #[.func (.func 53) #[] #[.pointer (some ⟨B5, 0, none⟩)], .func (.func 54) #[] #[.pointer (some ⟨B5, 0, none⟩)]] 61))
  generalize v5.alloc (.cells #[.func (.func 53) #[] #[.pointer (some ⟨B5, 0, none⟩)], .func (.func 54) #[] #[.pointer (some ⟨B5, 0, none⟩)]] 61) = w5 at HN5 HF5 HA5 HD5 ⊢
  generalize v5.heap.size = b5 at HA5 ⊢
  clear hF5 hN5 h5 HC5
  go_wp2_with fail
  refine (HC6.out _).mono ?_
  intro e v6 h6
  obtain ⟨B6, rfl, hF6, hN6⟩ := h6.num rfl (by decide)
  go_upto_region 7 with fail
  have HN6 := Lib.hid ((HN5.out.trans hN6).alloc (.cells #[.func (.func 53) #[] #[.pointer (some ⟨B6, 0, none⟩)], .func (.func 54) #[] #[.pointer (some ⟨B6, 0, none⟩)]] 61))
  have HF6 := Lib.hid ((hF6.mono HN5.out.b.size).nw (Nw.refl.alloc (.cells #[.func (.func 53) #[] #[.pointer (some ⟨B6, 0, none⟩)], .func (.func 54) #[] #[.pointer (some ⟨B6, 0, none⟩)]] 61)))
  have HA6 := Lib.hid (show (v6.alloc (.cells #[.func (.func 53) #[] #[.pointer (some ⟨B6, 0, none⟩)], .func (.func 54) #[] #[.pointer (some ⟨B6, 0, none⟩)]] 61)).cell? ⟨v6.heap.size, 0, none⟩ = some (npV B6) ∧ (v6.alloc (.cells #[.func (.func 53) #[] #[.pointer (some ⟨B6, 0, none⟩)], .func (.func 54) #[] #[.pointer (some ⟨B6, 0, none⟩)]] 61)).cell? ⟨v6.heap.size, 1, none⟩ = some (ngV B6) from ⟨by simp [go_sem, npV], by simp [go_sem, ngV]⟩)
  have HD6 := Lib.hid (hN6.alloc (.cells #[.func (.func 53) #[] #[.pointer (some ⟨B6, 0, none⟩)], .func (.func 54) #[] #[.pointer (some ⟨B6, 0, none⟩)]] 61))
  generalize v6.alloc (.cells #[.func (.func 53) #[] #[.pointer (some ⟨B6, 0, none⟩)], .func (.func 54) #[] #[.pointer (some ⟨B6, 0, none⟩)]] 61) = w6 at HN6 HF6 HA6 HD6 ⊢
  generalize v6.heap.size = b6 at HA6 ⊢
  clear hF6 hN6 h6 HC6
  go_upto_region 8 with fail
  have HA7 := Lib.hid (show (w6.alloc (.cells #[.func (.func 47) #[] #[], .func (.func 48) #[] #[]] 61)).cell? ⟨w6.heap.size, 0, none⟩ = some (.func (.func 47) #[] #[]) ∧ (w6.alloc (.cells #[.func (.func 47) #[] #[], .func (.func 48) #[] #[]] 61)).cell? ⟨w6.heap.size, 1, none⟩ = some (.func (.func 48) #[] #[]) from ⟨by simp [go_sem], by simp [go_sem]⟩)
  have HF7 : Hid (∀ lo W, FieldIs lo W .flags (.func (.func 47) #[] #[]) (.func (.func 48) #[] #[])) := fun _ _ => ⟨rfl, rfl⟩
  have HE6 := Lib.hid (Nw.refl.alloc (w0 := w6) (.cells #[.func (.func 47) #[] #[], .func (.func 48) #[] #[]] 61))
  have HN7 := Lib.hid (HN6.out.trans HE6.out)
  generalize w6.alloc (.cells #[.func (.func 47) #[] #[], .func (.func 48) #[] #[]] 61) = W8 at HA7 HE6 HN7 ⊢
  generalize w6.heap.size = b7 at HA7 ⊢
  have HE5 := Lib.hid (HD6.out.trans HE6.out)
  have HE4 := Lib.hid (HD5.out.trans HE5.out)
  have HE3 := Lib.hid (HD4.out.trans HE4.out)
  have HE2 := Lib.hid (HD3.out.trans HE3.out)
  have HE1 := Lib.hid (HD2.out.trans HE2.out)
  have HX1 := Lib.hid (HF1.out.nw HE1.out)
  have HL1 := Lib.hid (fun (X : World) (h : Up W8.heap.size W8 X) => show X.cell? ⟨b1, 0, none⟩ = some (.func (.func 50) #[] #[.pointer (some ⟨B1, 0, none⟩)]) ∧ X.cell? ⟨b1, 1, none⟩ = some (.func (.func 51) #[] #[.pointer (some ⟨C1, 0, none⟩), .pointer (some ⟨B1, 0, none⟩)]) from by
    have l1 := (cell_lt HA1.out.1).1
    have l2 := HE1.out.b.size
    dsimp only at l1
    exact ⟨h.cell ((HE1.out.b.cell (p := ⟨b1, 0, none⟩) l1).trans HA1.out.1) (by dsimp only; omega), h.cell ((HE1.out.b.cell (p := ⟨b1, 1, none⟩) l1).trans HA1.out.2) (by dsimp only; omega)⟩)
  have HX2 := Lib.hid (HF2.out.nw HE2.out)
  have HL2 := Lib.hid (fun (X : World) (h : Up W8.heap.size W8 X) => show X.cell? ⟨b2, 0, none⟩ = some (.func (.func 50) #[] #[.pointer (some ⟨B2, 0, none⟩)]) ∧ X.cell? ⟨b2, 1, none⟩ = some (.func (.func 51) #[] #[.pointer (some ⟨C2, 0, none⟩), .pointer (some ⟨B2, 0, none⟩)]) from by
    have l1 := (cell_lt HA2.out.1).1
    have l2 := HE2.out.b.size
    dsimp only at l1
    exact ⟨h.cell ((HE2.out.b.cell (p := ⟨b2, 0, none⟩) l1).trans HA2.out.1) (by dsimp only; omega), h.cell ((HE2.out.b.cell (p := ⟨b2, 1, none⟩) l1).trans HA2.out.2) (by dsimp only; omega)⟩)
  have HX3 := Lib.hid (HF3.out.nw HE3.out)
  have HL3 := Lib.hid (fun (X : World) (h : Up W8.heap.size W8 X) => show X.cell? ⟨b3, 0, none⟩ = some (.func (.func 50) #[] #[.pointer (some ⟨B3, 0, none⟩)]) ∧ X.cell? ⟨b3, 1, none⟩ = some (.func (.func 51) #[] #[.pointer (some ⟨C3, 0, none⟩), .pointer (some ⟨B3, 0, none⟩)]) from by
    have l1 := (cell_lt HA3.out.1).1
    have l2 := HE3.out.b.size
    dsimp only at l1
    exact ⟨h.cell ((HE3.out.b.cell (p := ⟨b3, 0, none⟩) l1).trans HA3.out.1) (by dsimp only; omega), h.cell ((HE3.out.b.cell (p := ⟨b3, 1, none⟩) l1).trans HA3.out.2) (by dsimp only; omega)⟩)
  have HX4 := Lib.hid (HF4.out.nw HE4.out)
  have HL4 := Lib.hid (fun (X : World) (h : Up W8.heap.size W8 X) => show X.cell? ⟨b4, 0, none⟩ = some (.func (.func 53) #[] #[.pointer (some ⟨B4, 0, none⟩)]) ∧ X.cell? ⟨b4, 1, none⟩ = some (.func (.func 54) #[] #[.pointer (some ⟨B4, 0, none⟩)]) from by
    have l1 := (cell_lt HA4.out.1).1
    have l2 := HE4.out.b.size
    dsimp only at l1
    exact ⟨h.cell ((HE4.out.b.cell (p := ⟨b4, 0, none⟩) l1).trans HA4.out.1) (by dsimp only; omega), h.cell ((HE4.out.b.cell (p := ⟨b4, 1, none⟩) l1).trans HA4.out.2) (by dsimp only; omega)⟩)
  have HX5 := Lib.hid (HF5.out.nw HE5.out)
  have HL5 := Lib.hid (fun (X : World) (h : Up W8.heap.size W8 X) => show X.cell? ⟨b5, 0, none⟩ = some (.func (.func 53) #[] #[.pointer (some ⟨B5, 0, none⟩)]) ∧ X.cell? ⟨b5, 1, none⟩ = some (.func (.func 54) #[] #[.pointer (some ⟨B5, 0, none⟩)]) from by
    have l1 := (cell_lt HA5.out.1).1
    have l2 := HE5.out.b.size
    dsimp only at l1
    exact ⟨h.cell ((HE5.out.b.cell (p := ⟨b5, 0, none⟩) l1).trans HA5.out.1) (by dsimp only; omega), h.cell ((HE5.out.b.cell (p := ⟨b5, 1, none⟩) l1).trans HA5.out.2) (by dsimp only; omega)⟩)
  have HX6 := Lib.hid (HF6.out.nw HE6.out)
  have HL6 := Lib.hid (fun (X : World) (h : Up W8.heap.size W8 X) => show X.cell? ⟨b6, 0, none⟩ = some (.func (.func 53) #[] #[.pointer (some ⟨B6, 0, none⟩)]) ∧ X.cell? ⟨b6, 1, none⟩ = some (.func (.func 54) #[] #[.pointer (some ⟨B6, 0, none⟩)]) from by
    have l1 := (cell_lt HA6.out.1).1
    have l2 := HE6.out.b.size
    dsimp only at l1
    exact ⟨h.cell ((HE6.out.b.cell (p := ⟨b6, 0, none⟩) l1).trans HA6.out.1) (by dsimp only; omega), h.cell ((HE6.out.b.cell (p := ⟨b6, 1, none⟩) l1).trans HA6.out.2) (by dsimp only; omega)⟩)
  have HL7 := Lib.hid (fun (X : World) (h : Up W8.heap.size W8 X) => show X.cell? ⟨b7, 0, none⟩ = some (.func (.func 47) #[] #[]) ∧ X.cell? ⟨b7, 1, none⟩ = some (.func (.func 48) #[] #[]) from by
    have l1 := (cell_lt HA7.out.1).1
    dsimp only at l1
    exact ⟨h.cell HA7.out.1 (by dsimp only; omega), h.cell HA7.out.2 (by dsimp only; omega)⟩)
  have HK0 := Lib.hid (KI.made w.heap.size W8)
  clear HF1 HF2 HF3 HF4 HF5 HF6 HA1 HA2 HA3 HA4 HA5 HA6 HA7 HN1 HN2 HN3 HN4 HN5 HN6 HD1 HD2 HD3 HD4 HD5 HD6 HE1 HE2 HE3 HE4 HE5 HE6
  obtain ⟨c1, d1⟩ := HL1.out _ HK0.out.1
  obtain ⟨c7, d7⟩ := HL7.out _ HK0.out.1
  have hk0 := HK0.out.1.size
  go_wp2_with fail
  obtain ⟨X1, hrun, hK1⟩ := KI.step (P := Try.prog) 56 5 54 Try.underlying56 Try.underlying5 HK0.out (Nw.refl.alloc (.cells #[.func (.func 50) #[] #[.pointer (some ⟨B1, 0, none⟩)], .func (.func 51) #[] #[.pointer (some ⟨C1, 0, none⟩), .pointer (some ⟨B1, 0, none⟩)], .func (.func 47) #[] #[], .func (.func 48) #[] #[]] 61)) 1 [.path, .flags] (.slice (some ⟨(W8.heap.size + 1), 0, none⟩) 2 2) (by
    have hh := (fields_two HK0.out.lt HX1.out (HF7.out _ _) 61)
    rw [show (W8.alloc (.map #[] 0)).heap.size = W8.heap.size + 1 from by simp] at hh
    exact hh) (by decide)
  rw [hrun]
  clear hrun
  have HK1 := Lib.hid hK1
  clear hK1 c1 d1 c7 d7
  obtain ⟨c4, d4⟩ := HL4.out _ HK1.out.1
  go_wp2_with fail
  obtain ⟨X2, hrun, hK2⟩ := KI.step (P := Try.prog) 56 5 54 Try.underlying56 Try.underlying5 HK1.out (Nw.refl.alloc (.cells #[.func (.func 53) #[] #[.pointer (some ⟨B4, 0, none⟩)], .func (.func 54) #[] #[.pointer (some ⟨B4, 0, none⟩)]] 61)) 2 [.fd] (.slice (some ⟨X1.heap.size, 0, none⟩) 1 1) (by
    exact (fields_one HK1.out.lt HX4.out 61)) (by decide)
  rw [hrun]
  clear hrun
  have HK2 := Lib.hid hK2
  clear hK2 c4 d4
  obtain ⟨c4, d4⟩ := HL4.out _ HK2.out.1
  obtain ⟨c6, d6⟩ := HL6.out _ HK2.out.1
  go_wp2_with fail
  obtain ⟨X3, hrun, hK3⟩ := KI.step (P := Try.prog) 56 5 54 Try.underlying56 Try.underlying5 HK2.out (Nw.refl.alloc (.cells #[.func (.func 53) #[] #[.pointer (some ⟨B4, 0, none⟩)], .func (.func 54) #[] #[.pointer (some ⟨B4, 0, none⟩)], .func (.func 53) #[] #[.pointer (some ⟨B6, 0, none⟩)], .func (.func 54) #[] #[.pointer (some ⟨B6, 0, none⟩)]] 61)) 3 [.fd, .size] (.slice (some ⟨X2.heap.size, 0, none⟩) 2 2) (by
    exact (fields_two HK2.out.lt HX4.out HX6.out 61)) (by decide)
  rw [hrun]
  clear hrun
  have HK3 := Lib.hid hK3
  clear hK3 c4 d4 c6 d6
  obtain ⟨c4, d4⟩ := HL4.out _ HK3.out.1
  obtain ⟨c3, d3⟩ := HL3.out _ HK3.out.1
  go_wp2_with fail
  obtain ⟨X4, hrun, hK4⟩ := KI.step (P := Try.prog) 56 5 54 Try.underlying56 Try.underlying5 HK3.out (Nw.refl.alloc (.cells #[.func (.func 53) #[] #[.pointer (some ⟨B4, 0, none⟩)], .func (.func 54) #[] #[.pointer (some ⟨B4, 0, none⟩)], .func (.func 50) #[] #[.pointer (some ⟨B3, 0, none⟩)], .func (.func 51) #[] #[.pointer (some ⟨C3, 0, none⟩), .pointer (some ⟨B3, 0, none⟩)]] 61)) 4 [.fd, .data] (.slice (some ⟨X3.heap.size, 0, none⟩) 2 2) (by
    exact (fields_two HK3.out.lt HX4.out HX3.out 61)) (by decide)
  rw [hrun]
  clear hrun
  have HK4 := Lib.hid hK4
  clear hK4 c4 d4 c3 d3
  obtain ⟨c4, d4⟩ := HL4.out _ HK4.out.1
  obtain ⟨c5, d5⟩ := HL5.out _ HK4.out.1
  go_wp2_with fail
  obtain ⟨X5, hrun, hK5⟩ := KI.step (P := Try.prog) 56 5 54 Try.underlying56 Try.underlying5 HK4.out (Nw.refl.alloc (.cells #[.func (.func 53) #[] #[.pointer (some ⟨B4, 0, none⟩)], .func (.func 54) #[] #[.pointer (some ⟨B4, 0, none⟩)], .func (.func 53) #[] #[.pointer (some ⟨B5, 0, none⟩)], .func (.func 54) #[] #[.pointer (some ⟨B5, 0, none⟩)]] 61)) 5 [.fd, .pos] (.slice (some ⟨X4.heap.size, 0, none⟩) 2 2) (by
    exact (fields_two HK4.out.lt HX4.out HX5.out 61)) (by decide)
  rw [hrun]
  clear hrun
  have HK5 := Lib.hid hK5
  clear hK5 c4 d4 c5 d5
  obtain ⟨c4, d4⟩ := HL4.out _ HK5.out.1
  obtain ⟨c5, d5⟩ := HL5.out _ HK5.out.1
  go_wp2_with fail
  obtain ⟨X6, hrun, hK6⟩ := KI.step (P := Try.prog) 56 5 54 Try.underlying56 Try.underlying5 HK5.out (Nw.refl.alloc (.cells #[.func (.func 53) #[] #[.pointer (some ⟨B4, 0, none⟩)], .func (.func 54) #[] #[.pointer (some ⟨B4, 0, none⟩)], .func (.func 53) #[] #[.pointer (some ⟨B5, 0, none⟩)], .func (.func 54) #[] #[.pointer (some ⟨B5, 0, none⟩)]] 61)) 6 [.fd, .pos] (.slice (some ⟨X5.heap.size, 0, none⟩) 2 2) (by
    exact (fields_two HK5.out.lt HX4.out HX5.out 61)) (by decide)
  rw [hrun]
  clear hrun
  have HK6 := Lib.hid hK6
  clear hK6 c4 d4 c5 d5
  obtain ⟨c1, d1⟩ := HL1.out _ HK6.out.1
  obtain ⟨c5, d5⟩ := HL5.out _ HK6.out.1
  go_wp2_with fail
  obtain ⟨X7, hrun, hK7⟩ := KI.step (P := Try.prog) 56 5 54 Try.underlying56 Try.underlying5 HK6.out (Nw.refl.alloc (.cells #[.func (.func 50) #[] #[.pointer (some ⟨B1, 0, none⟩)], .func (.func 51) #[] #[.pointer (some ⟨C1, 0, none⟩), .pointer (some ⟨B1, 0, none⟩)], .func (.func 53) #[] #[.pointer (some ⟨B5, 0, none⟩)], .func (.func 54) #[] #[.pointer (some ⟨B5, 0, none⟩)]] 61)) 13 [.path, .pos] (.slice (some ⟨X6.heap.size, 0, none⟩) 2 2) (by
    exact (fields_two HK6.out.lt HX1.out HX5.out 61)) (by decide)
  rw [hrun]
  clear hrun
  have HK7 := Lib.hid hK7
  clear hK7 c1 d1 c5 d5
  obtain ⟨c1, d1⟩ := HL1.out _ HK7.out.1
  go_wp2_with fail
  obtain ⟨X8, hrun, hK8⟩ := KI.step (P := Try.prog) 56 5 54 Try.underlying56 Try.underlying5 HK7.out (Nw.refl.alloc (.cells #[.func (.func 50) #[] #[.pointer (some ⟨B1, 0, none⟩)], .func (.func 51) #[] #[.pointer (some ⟨C1, 0, none⟩), .pointer (some ⟨B1, 0, none⟩)]] 61)) 7 [.path] (.slice (some ⟨X7.heap.size, 0, none⟩) 1 1) (by
    exact (fields_one HK7.out.lt HX1.out 61)) (by decide)
  rw [hrun]
  clear hrun
  have HK8 := Lib.hid hK8
  clear hK8 c1 d1
  obtain ⟨c1, d1⟩ := HL1.out _ HK8.out.1
  go_wp2_with fail
  obtain ⟨X9, hrun, hK9⟩ := KI.step (P := Try.prog) 56 5 54 Try.underlying56 Try.underlying5 HK8.out (Nw.refl.alloc (.cells #[.func (.func 50) #[] #[.pointer (some ⟨B1, 0, none⟩)], .func (.func 51) #[] #[.pointer (some ⟨C1, 0, none⟩), .pointer (some ⟨B1, 0, none⟩)]] 61)) 8 [.path] (.slice (some ⟨X8.heap.size, 0, none⟩) 1 1) (by
    exact (fields_one HK8.out.lt HX1.out 61)) (by decide)
  rw [hrun]
  clear hrun
  have HK9 := Lib.hid hK9
  clear hK9 c1 d1
  obtain ⟨c1, d1⟩ := HL1.out _ HK9.out.1
  go_wp2_with fail
  obtain ⟨X10, hrun, hK10⟩ := KI.step (P := Try.prog) 56 5 54 Try.underlying56 Try.underlying5 HK9.out (Nw.refl.alloc (.cells #[.func (.func 50) #[] #[.pointer (some ⟨B1, 0, none⟩)], .func (.func 51) #[] #[.pointer (some ⟨C1, 0, none⟩), .pointer (some ⟨B1, 0, none⟩)]] 61)) 9 [.path] (.slice (some ⟨X9.heap.size, 0, none⟩) 1 1) (by
    exact (fields_one HK9.out.lt HX1.out 61)) (by decide)
  rw [hrun]
  clear hrun
  have HK10 := Lib.hid hK10
  clear hK10 c1 d1
  obtain ⟨c1, d1⟩ := HL1.out _ HK10.out.1
  go_wp2_with fail
  obtain ⟨X11, hrun, hK11⟩ := KI.step (P := Try.prog) 56 5 54 Try.underlying56 Try.underlying5 HK10.out (Nw.refl.alloc (.cells #[.func (.func 50) #[] #[.pointer (some ⟨B1, 0, none⟩)], .func (.func 51) #[] #[.pointer (some ⟨C1, 0, none⟩), .pointer (some ⟨B1, 0, none⟩)]] 61)) 11 [.path] (.slice (some ⟨X10.heap.size, 0, none⟩) 1 1) (by
    exact (fields_one HK10.out.lt HX1.out 61)) (by decide)
  rw [hrun]
  clear hrun
  have HK11 := Lib.hid hK11
  clear hK11 c1 d1
  obtain ⟨c1, d1⟩ := HL1.out _ HK11.out.1
  obtain ⟨c2, d2⟩ := HL2.out _ HK11.out.1
  go_wp2_with fail
  obtain ⟨X12, hrun, hK12⟩ := KI.step (P := Try.prog) 56 5 54 Try.underlying56 Try.underlying5 HK11.out (Nw.refl.alloc (.cells #[.func (.func 50) #[] #[.pointer (some ⟨B1, 0, none⟩)], .func (.func 51) #[] #[.pointer (some ⟨C1, 0, none⟩), .pointer (some ⟨B1, 0, none⟩)], .func (.func 50) #[] #[.pointer (some ⟨B2, 0, none⟩)], .func (.func 51) #[] #[.pointer (some ⟨C2, 0, none⟩), .pointer (some ⟨B2, 0, none⟩)]] 61)) 10 [.path, .dst] (.slice (some ⟨X11.heap.size, 0, none⟩) 2 2) (by
    exact (fields_two HK11.out.lt HX1.out HX2.out 61)) (by decide)
  rw [hrun]
  clear hrun
  have HK12 := Lib.hid hK12
  clear hK12 c1 d1 c2 d2
  obtain ⟨c1, d1⟩ := HL1.out _ HK12.out.1
  obtain ⟨c2, d2⟩ := HL2.out _ HK12.out.1
  go_wp2_with fail
  obtain ⟨X13, hrun, hK13⟩ := KI.step (P := Try.prog) 56 5 54 Try.underlying56 Try.underlying5 HK12.out (Nw.refl.alloc (.cells #[.func (.func 50) #[] #[.pointer (some ⟨B1, 0, none⟩)], .func (.func 51) #[] #[.pointer (some ⟨C1, 0, none⟩), .pointer (some ⟨B1, 0, none⟩)], .func (.func 50) #[] #[.pointer (some ⟨B2, 0, none⟩)], .func (.func 51) #[] #[.pointer (some ⟨C2, 0, none⟩), .pointer (some ⟨B2, 0, none⟩)]] 61)) 12 [.path, .dst] (.slice (some ⟨X12.heap.size, 0, none⟩) 2 2) (by
    exact (fields_two HK12.out.lt HX1.out HX2.out 61)) (by decide)
  rw [hrun]
  clear hrun
  have HK13 := Lib.hid hK13
  clear hK13 c1 d1 c2 d2
  go_wp2_with fail
  go_ret
  exact ⟨W8, _, rfl, HN7.out, rfl, HK13.out⟩

end Go.Proofs.Ytphcdndohdnolaa
