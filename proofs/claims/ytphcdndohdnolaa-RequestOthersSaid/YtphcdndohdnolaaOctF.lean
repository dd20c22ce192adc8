/-
  THE TAPE's CALLS: New, Byte, Number, Text, Torn, End.
-/
import Derived.Test.YtphcdndohdnolaaOctE
import Derived.WalkLawsBesides
namespace Go.Proofs.Ytphcdndohdnolaa
open Go.RowKit Go.Shelf

def numS (zs : List Int) : Nat := if numP zs then 1 + kOf zs else 0
theorem numV_size (zs : List Int) : (numV zs).2 = (numS zs : Int) := by
  unfold numV numS; split <;> simp
theorem numS_le (zs : List Int) : numS zs ≤ zs.length := by
  unfold numS; split
  · rename_i h; have := h.2.2.1; omega
  · omega
theorem numS_nine (zs : List Int) : numS zs ≤ 9 := by
  unfold numS; split
  · rename_i h; have := h.2.1; omega
  · omega
theorem numV_range (zs : List Int) (hz : ∀ x ∈ zs, isByte x) : 0 ≤ (numV zs).1 ∧ (numV zs).1 ≤ 18446744073709551615 := by
  unfold numV; split
  · rename_i h
    obtain ⟨b1, b2⟩ := valL_bd (ownL zs) (fun x hx => hz x (List.mem_of_mem_drop (List.mem_of_mem_take hx)))
    have hl : (ownL zs).length ≤ 8 := by unfold ownL; have := h.2.1; simp; omega
    have hp : 256 ^ (ownL zs).length ≤ 256 ^ 8 := Nat.pow_le_pow_right (by decide) hl
    have h8 : (256 : Nat) ^ 8 = 18446744073709551616 := by decide
    dsimp only
    omega
  · decide
theorem numV_zero (zs : List Int) (h : numS zs = 0) : (numV zs).1 = 0 := by
  unfold numS at h
  unfold numV
  by_cases hp : numP zs
  · rw [if_pos hp] at h; omega
  · rw [if_neg hp]
/-- What a call on a tape tells. -/
def StepP (R : Value) (t : Nat) (zs : List Int) (torn : Bool) (w : World) (e : Ending) (w' : World) (m : Nat := t) : Prop := e = .returned R ∧ TapeAt w' t zs torn m ∧ Up t w w'
def numR (zs : List Int) (torn : Bool) : Int := if torn then 0 else (numV zs).1

theorem own_cap {w : World} {base : Nat} {e : TypeId} {a : Option Addr} {n m cap : Nat} {xs : List Value} (h : w.ownsRow base e 1 (.slice a n cap) m xs) : n ≤ cap := by
  rcases h.2 with ⟨h1, _⟩ | ⟨g, c, cur, h1, _, _, hn, _⟩
  · cases h1; exact Nat.le_refl _
  · simp only [Value.slice.injEq] at h1; obtain ⟨_, rfl, rfl⟩ := h1; omega

def NewP (zs : List Int) (w : World) (e : Ending) (w' : World) : Prop := ∃ t, e = .returned (.pointer (some ⟨t, 0, none⟩)) ∧ w.heap.size ≤ t ∧ TapeAt w' t zs false ∧ Nw w w'
set_option maxHeartbeats 1000000 in
theorem new_any (a : Option Addr) (len cap : Nat) (zs : List Int) (hl : zs.length = len) (hreach : len ≤ 140737488355000) (hz : ∀ x ∈ zs, isByte x) (w : World) (hI : Ints w.heap.size .u8 w a zs) :
    Calls Try.prog 30 #[.slice a len cap] w (NewP zs w) := by
  have HZ := Lib.hid hz
  subst hl
  clear hz
  go_enter Try.func30, Try.ntmps30
  go_wp2_with fail
  refine (clone_any a _ cap zs rfl hreach _ hI).mono ?_
  rintro e w1 ⟨v1, rfl, ho1, hw1⟩
  have hlt := hw1.b.size
  have hc := own_cap (a := none) (n := 0) (cap := 0) (w := w1) (base := 0) (e := 0) (m := 0) (xs := []) ⟨rfl, .inl ⟨rfl, rfl⟩⟩
  obtain ⟨x, c, rfl, _, hI1⟩ := Ints.of_owns ho1
  have hle := own_cap ho1
  have HO := Lib.hid hI1
  have HW := Lib.hid hw1
  clear ho1 hI1 hw1 hc hI
  go_wp2_with fail
  go_ret
  refine ⟨w1.heap.size, rfl, hlt, ⟨⟨x, c, by simp [go_sem], hle, HO.out.below ((Below.refl _ w1).alloc (Nat.le_refl _) _)⟩, by simp [go_sem], by simp [go_sem], by simp [go_sem], HZ.out, by omega⟩, HW.out.alloc _⟩

def endB (zs : List Int) (torn : Bool) : Bool := !torn && decide (zs.length = 0)
set_option maxHeartbeats 1000000 in
theorem end_any (t : Nat) (zs : List Int) (torn : Bool) (w : World) (h : TapeAt w t zs torn) :
    Calls Try.prog 33 #[.pointer (some ⟨t, 0, none⟩)] w fun e w' => e = .returned (.bool (endB zs torn)) ∧ w = w' := by
  have c1 := h.c1
  obtain ⟨a, cap, s1, _, _⟩ := h.s
  have hle := h.le
  clear h
  cases torn
  · by_cases h0 : zs.length = 0
    · have HE : endB zs false = true := by simp [endB, h0]
      have hd : ((zs.length : Int) == 0) = true := by simp [h0]
      rw [HE]
      clear HE h0
      obtain ⟨len, hlen⟩ : ∃ len, zs.length = len := ⟨_, rfl⟩
      rw [hlen] at s1 hd hle
      clear hlen
      go_enter Try.func33, Try.ntmps33
      go_wp2
      go_ret
      exact ⟨rfl, rfl⟩
    · have HE : endB zs false = false := by unfold endB; rw [decide_eq_false h0]; rfl
      have hd : ((zs.length : Int) == 0) = false := by rw [beq_eq_false_iff_ne]; omega
      rw [HE]
      clear HE
      have hp : 0 < zs.length := by omega
      clear h0
      obtain ⟨len, hlen⟩ : ∃ len, zs.length = len := ⟨_, rfl⟩
      rw [hlen] at s1 hd hp hle
      clear hlen
      go_enter Try.func33, Try.ntmps33
      go_wp2
      go_ret
      exact ⟨rfl, rfl⟩
  · have HE : endB zs true = false := rfl
    rw [HE]
    clear HE
    go_enter Try.func33, Try.ntmps33
    go_wp2
    go_ret
    exact ⟨rfl, rfl⟩
set_option maxHeartbeats 1000000 in
theorem end_nil (w : World) :
    Calls Try.prog 33 #[.pointer none] w fun e w' => e = .returned (.bool false) ∧ w = w' := by
  go_enter Try.func33, Try.ntmps33
  go_wp2
  go_ret
  exact ⟨rfl, rfl⟩

set_option maxHeartbeats 1000000 in
theorem tnumber_any (t : Nat) (zs : List Int) (torn : Bool) (w : World) (h : TapeAt w t zs torn) :
    Calls Try.prog 49 #[.pointer (some ⟨t, 0, none⟩)] w (StepP (.int .u64 (numR zs torn)) t (stepT zs torn (numS zs)).1 (stepT zs torn (numS zs)).2 w) := by
  have HC := Lib.hid ((next_u64 t zs torn (.int .u64 (numV zs).1) (numS zs) (numS_le zs) w h (fun _ a cap hc hI => by
    have := number_of a zs.length cap zs rfl h.le hc h.by_ w (hI.mono (Nat.le_of_lt h.lt))
    rw [numV_size] at this
    exact this)).mono (R' := StepP (.int .u64 (numR zs torn)) t (stepT zs torn (numS zs)).1 (stepT zs torn (numS zs)).2 w) (by
    rintro e w' ⟨rfl, h1, h2⟩
    refine ⟨?_, h1, h2⟩
    unfold numR
    cases torn
    · by_cases h0 : numS zs = 0
      · simp only [Bool.false_eq_true, if_false, h0, if_true, numV_zero zs h0]
      · simp only [Bool.false_eq_true, if_false, h0]
    · rfl))
  generalize numR zs torn = V at HC ⊢
  generalize stepT zs torn (numS zs) = S at HC ⊢
  clear h
  go_enter Try.func49, Try.ntmps49
  go_wp2_with fail
  refine HC.out.mono ?_
  rintro e w1 ⟨rfl, h1, h2⟩
  go_wp2_with fail
  go_ret
  exact ⟨rfl, h1, h2⟩
def byV (zs : List Int) : Int := zs[0]?.getD 0
def byS (zs : List Int) : Nat := if zs.length = 0 then 0 else 1
def byR (zs : List Int) (torn : Bool) : Int := if torn then 0 else byV zs
set_option maxHeartbeats 1000000 in
theorem tbyte_any (t : Nat) (zs : List Int) (torn : Bool) (w : World) (h : TapeAt w t zs torn) :
    Calls Try.prog 31 #[.pointer (some ⟨t, 0, none⟩)] w (StepP (.int .u8 (byR zs torn)) t (stepT zs torn (byS zs)).1 (stepT zs torn (byS zs)).2 w) := by
  have HC := Lib.hid ((next_u8 t zs torn (.int .u8 (byV zs)) (byS zs) (by unfold byS; split <;> omega) w h (fun _ a cap hc hI => by
    refine ((callsIn_wide (n := 0)).1 (octet_in Fence.wide _ trivial rfl a zs.length cap zs rfl h.le _ w hI)).mono ?_
    rintro e w' ⟨rfl, rfl⟩
    refine ⟨?_, Nw.refl⟩
    unfold byV byS
    split <;> rfl)).mono (R' := StepP (.int .u8 (byR zs torn)) t (stepT zs torn (byS zs)).1 (stepT zs torn (byS zs)).2 w) (by
    rintro e w' ⟨rfl, h1, h2⟩
    refine ⟨?_, h1, h2⟩
    unfold byR
    cases torn
    · by_cases h0 : zs.length = 0
      · have : zs = [] := List.length_eq_zero_iff.1 h0
        subst this
        rfl
      · have : ¬ byS zs = 0 := by unfold byS; rw [if_neg h0]; omega
        simp only [Bool.false_eq_true, if_false, this]
    · rfl))
  generalize byR zs torn = V at HC ⊢
  generalize stepT zs torn (byS zs) = S at HC ⊢
  clear h
  go_enter Try.func31, Try.ntmps31
  go_wp2_with fail
  refine HC.out.mono ?_
  rintro e w1 ⟨rfl, h1, h2⟩
  go_wp2_with fail
  go_ret
  exact ⟨rfl, h1, h2⟩
set_option maxHeartbeats 1000000 in
theorem tnumber_nil (w : World) : Calls Try.prog 49 #[.pointer none] w fun e w' => e = .returned (.int .u64 0) ∧ w = w' := by
  go_enter Try.func49, Try.ntmps49
  go_wp2_with (go_at_call 55; refine (next_nil_u64 _).mono ?_; rintro e w' ⟨rfl, rfl⟩)
  go_ret
  exact ⟨rfl, rfl⟩
set_option maxHeartbeats 1000000 in
theorem tbyte_nil (w : World) : Calls Try.prog 31 #[.pointer none] w fun e w' => e = .returned (.int .u8 0) ∧ w = w' := by
  go_enter Try.func31, Try.ntmps31
  go_wp2_with (go_at_call 37; refine (next_nil_u8 _).mono ?_; rintro e w' ⟨rfl, rfl⟩)
  go_ret
  exact ⟨rfl, rfl⟩
set_option maxHeartbeats 1000000 in
theorem ttext_nil (n : Int) (w : World) : Calls Try.prog 52 #[.pointer none, .int .i64 n] w fun e w' => e = .returned (.string ByteArray.empty) ∧ Nw w w' := by
  go_enter Try.func52, Try.ntmps52
  go_wp2_with (go_at_call 57; refine (next_nil_str _ _).mono ?_; rintro e w' ⟨rfl, rfl⟩)
  go_ret
  exact ⟨rfl, Nw.refl.alloc _⟩

end Go.Proofs.Ytphcdndohdnolaa
