/-
  THE TAPE's CALLS ONCE MORE: with where its bytes lie.
-/
import Derived.Test.YtphcdndohdnolaaOctX
namespace Go.Proofs.Ytphcdndohdnolaa
open Go.RowKit Go.Shelf
set_option linter.unusedVariables false

/-- A tape whose bytes lie at L and behind. -/
structure TapeL (w : World) (x : Nat) (zs : List Int) (torn : Bool) (L : Nat) : Prop where
  t : TapeAt w x zs torn
  lo : ∀ a n c, w.cell? ⟨x, 0, none⟩ = some (.slice a n c) → ∀ p, a = some p → L ≤ p.block
theorem TapeL.other {w w' : World} {t g L : Nat} {zs : List Int} {torn : Bool} (h : TapeL w t zs torn L) (k : Up g w w') (hg : g ≠ t) (hL : g < L) : TapeL w' t zs torn L := by
  obtain ⟨a, cap, s1, s2, s3⟩ := h.t.s
  have hl := h.t.lt
  have hc : w'.cell? ⟨t, 0, none⟩ = some (.slice a zs.length cap) := k.cell s1 (Ne.symm hg)
  refine ⟨⟨⟨a, cap, hc, s2, ?_⟩, k.cell h.t.c1 (Ne.symm hg), (k.frozen (p := ⟨t, 0, none⟩) hl (Ne.symm hg)).trans h.t.f0, (k.frozen (p := ⟨t, 1, none⟩) hl (Ne.symm hg)).trans h.t.f1, h.t.by_, h.t.le⟩, ?_⟩
  · rcases s3 with hz | ⟨b, off, rfl, hb, hcs⟩
    · exact .inl hz
    · have := h.lo _ _ _ s1 _ rfl
      dsimp only at this
      exact .inr ⟨b, off, rfl, hb, fun j hj => k.cell (hcs j hj) (by dsimp only; omega)⟩
  · intro x m d hx p hp
    rw [hc] at hx
    simp only [Option.some.injEq, Value.slice.injEq] at hx
    obtain ⟨rfl, rfl, rfl⟩ := hx
    exact h.lo _ _ _ s1 p hp
theorem TapeL.nw {w w' : World} {t L : Nat} {zs : List Int} {torn : Bool} (h : TapeL w t zs torn L) (k : Nw w w') : TapeL w' t zs torn L :=
  ⟨h.t.nw k, LoK.nw k h.t.lt L h.lo⟩
theorem TapeL.lt {w : World} {t L : Nat} {zs : List Int} {torn : Bool} (h : TapeL w t zs torn L) : t < w.heap.size := h.t.lt
def StepL (R : Value) (t : Nat) (zs : List Int) (torn : Bool) (L : Nat) (w : World) (e : Ending) (w' : World) : Prop := e = .returned R ∧ TapeL w' t zs torn L ∧ Up t w w'

def NewL (zs : List Int) (w : World) (e : Ending) (w' : World) : Prop := ∃ t, e = .returned (.pointer (some ⟨t, 0, none⟩)) ∧ w.heap.size ≤ t ∧ TapeL w' t zs false w.heap.size ∧ Nw w w'
set_option maxHeartbeats 1000000 in
theorem new_tl (a : Option Addr) (len cap : Nat) (zs : List Int) (hl : zs.length = len) (hreach : len ≤ 140737488355000) (hz : ∀ x ∈ zs, isByte x) (w : World) (hI : Ints w.heap.size .u8 w a zs) :
    Calls Try.prog 30 #[.slice a len cap] w (NewL zs w) := by
  have HZ := Lib.hid hz
  subst hl
  clear hz
  go_enter Try.func30, Try.ntmps30
  go_wp2_with fail
  refine (clone_any a _ cap zs rfl hreach _ hI).mono ?_
  rintro e w1 ⟨v1, rfl, ho1, hw1⟩
  have hlt := hw1.b.size
  have hlo : Hid (∀ p n c, v1 = .slice (some p) n c → w.heap.size ≤ p.block) := by
    intro p n c hv
    rcases ho1.2 with ⟨h, _⟩ | ⟨g, cap, cur, h, hg, _⟩
    · rw [hv] at h; simp at h
    · rw [hv] at h
      simp only [Value.slice.injEq, Option.some.injEq] at h
      rw [h.1]; exact hg
  obtain ⟨x, c, rfl, _, hI1⟩ := Ints.of_owns ho1
  have hle := own_cap ho1
  have HO := Lib.hid hI1
  have HW := Lib.hid hw1
  clear ho1 hI1 hw1 hI
  go_wp2_with fail
  go_ret
  refine ⟨w1.heap.size, rfl, hlt, ⟨⟨⟨x, c, by simp [go_sem], hle, HO.out.below ((Below.refl _ w1).alloc (Nat.le_refl _) _)⟩, by simp [go_sem], by simp [go_sem], by simp [go_sem], HZ.out, by omega⟩, ?_⟩, HW.out.alloc _⟩
  intro a n d hx p hp
  simp [go_sem] at hx
  obtain ⟨rfl, rfl, rfl⟩ := hx
  exact hlo.out p _ _ (by rw [hp])

set_option maxHeartbeats 1000000 in
theorem tnumber_tl (t : Nat) (zs : List Int) (torn : Bool) (L : Nat) (w : World) (h : TapeL w t zs torn L) :
    Calls Try.prog 49 #[.pointer (some ⟨t, 0, none⟩)] w (StepL (.int .u64 (numR zs torn)) t (stepT zs torn (numS zs)).1 (stepT zs torn (numS zs)).2 L w) := by
  have HC := Lib.hid ((next_u64_q t zs torn (.int .u64 (numV zs).1) (numS zs) (numS_le zs) w h.t (fun _ a cap hc hI => by
    have := number_of a zs.length cap zs rfl h.t.le hc h.t.by_ w (hI.mono (Nat.le_of_lt h.lt))
    rw [numV_size] at this
    exact this)).mono (R' := StepL (.int .u64 (numR zs torn)) t (stepT zs torn (numS zs)).1 (stepT zs torn (numS zs)).2 L w) (by
    rintro e w' ⟨⟨rfl, h1, h2⟩, h3⟩
    refine ⟨?_, ⟨h1, h3 L h.lo⟩, h2⟩
    unfold numR
    cases torn
    · by_cases h0 : numS zs = 0
      · simp only [Bool.false_eq_true, if_false, h0, if_true, numV_zero zs h0]
      · simp only [Bool.false_eq_true, if_false, h0]
    · rfl))
  generalize numR zs torn = V at HC ⊢
  generalize stepT zs torn (numS zs) = S at HC ⊢
  clear h
  go_enter Try.func49, Try.ntmps49
  go_wp2_with fail
  refine HC.out.mono ?_
  rintro e w1 ⟨rfl, h1, h2⟩
  go_wp2_with fail
  go_ret
  exact ⟨rfl, h1, h2⟩
set_option maxHeartbeats 1000000 in
theorem tbyte_tl (t : Nat) (zs : List Int) (torn : Bool) (L : Nat) (w : World) (h : TapeL w t zs torn L) :
    Calls Try.prog 31 #[.pointer (some ⟨t, 0, none⟩)] w (StepL (.int .u8 (byR zs torn)) t (stepT zs torn (byS zs)).1 (stepT zs torn (byS zs)).2 L w) := by
  have HC := Lib.hid ((next_u8_q t zs torn (.int .u8 (byV zs)) (byS zs) (by unfold byS; split <;> omega) w h.t (fun _ a cap hc hI => by
    refine ((callsIn_wide (n := 0)).1 (octet_in Fence.wide _ trivial rfl a zs.length cap zs rfl h.t.le _ w hI)).mono ?_
    rintro e w' ⟨rfl, rfl⟩
    refine ⟨?_, Nw.refl⟩
    unfold byV byS
    split <;> rfl)).mono (R' := StepL (.int .u8 (byR zs torn)) t (stepT zs torn (byS zs)).1 (stepT zs torn (byS zs)).2 L w) (by
    rintro e w' ⟨⟨rfl, h1, h2⟩, h3⟩
    refine ⟨?_, ⟨h1, h3 L h.lo⟩, h2⟩
    unfold byR
    cases torn
    · by_cases h0 : zs.length = 0
      · have : zs = [] := List.length_eq_zero_iff.1 h0
        subst this
        rfl
      · have : ¬ byS zs = 0 := by unfold byS; rw [if_neg h0]; omega
        simp only [Bool.false_eq_true, if_false, this]
    · rfl))
  generalize byR zs torn = V at HC ⊢
  generalize stepT zs torn (byS zs) = S at HC ⊢
  clear h
  go_enter Try.func31, Try.ntmps31
  go_wp2_with fail
  refine HC.out.mono ?_
  rintro e w1 ⟨rfl, h1, h2⟩
  go_wp2_with fail
  go_ret
  exact ⟨rfl, h1, h2⟩
set_option maxHeartbeats 1000000 in
theorem ttext_tl (t : Nat) (zs : List Int) (torn : Bool) (L : Nat) (most : Int) (hm63 : most ≤ 9223372036854775807) (w : World) (h : TapeL w t zs torn L) :
    Calls Try.prog 52 #[.pointer (some ⟨t, 0, none⟩), .int .i64 most] w (StepL (.string (txtR zs torn most)) t (stepT zs torn (txtS zs most)).1 (stepT zs torn (txtS zs most)).2 L w) := by
  have h' := h.nw (Nw.refl.alloc (.cells #[.int .i64 most] 3))
  have HC := Lib.hid ((next_str_q t zs torn (.string (txtV zs most)) (txtS zs most) (txtS_le h.t.by_) w.heap.size _ h'.t (fun _ a cap hc hI => text1_any a cap zs h.t.le hc h.t.by_ _ most hm63 _ (hI.mono (Nat.le_of_lt h'.lt)) (by simp))).mono
    (R' := StepL (.string (txtR zs torn most)) t (stepT zs torn (txtS zs most)).1 (stepT zs torn (txtS zs most)).2 L (w.alloc (.cells #[.int .i64 most] 3))) (by
    rintro e w' ⟨⟨rfl, h1, h2⟩, h3⟩
    refine ⟨?_, ⟨h1, h3 L h'.lo⟩, h2⟩
    unfold txtR
    cases torn
    · by_cases h0 : txtS zs most = 0
      · have : txtV zs most = ByteArray.empty := by
          by_cases hp : txtP zs most
          · have := (txt_yes hp).2; have := hp.1; omega
          · exact (txt_no hp).1
        simp only [Bool.false_eq_true, if_false, h0, if_true, this]
      · simp only [Bool.false_eq_true, if_false, h0]
    · rfl))
  generalize txtR zs torn most = V at HC ⊢
  generalize stepT zs torn (txtS zs most) = S at HC ⊢
  clear h h'
  go_enter Try.func52, Try.ntmps52
  go_wp2_with fail
  refine HC.out.mono ?_
  rintro e w1 ⟨rfl, h1, h2⟩
  go_wp2_with fail
  go_ret
  exact ⟨rfl, h1, (Up.of_nw (Nw.refl.alloc _)).trans h2⟩

end Go.Proofs.Ytphcdndohdnolaa
