/-
  OCTETS: the bytes of numbers, plainly; the walks of bits.Len64, slices.Clone, octet.Number.
-/
import Derived.Test.YtphcdndohdnolaaProg
import Derived.Test.YtphcdndohdnolaaLib
import Derived.Lib.Strings
import Derived.Lib.Slices
import Derived.Lib.Small
import Derived.Lib.Walk
import Derived.Lib.BitFns
import Derived.Lib.SliceRun
import Derived.Deep.Cut
namespace Go.Proofs.Ytphcdndohdnolaa
open Go.RowKit

/-- Only new memory. -/
structure Nw (w0 w : World) : Prop where
  b : Below w0.heap.size w0 w
theorem Nw.alloc {w0 w : World} (h : Nw w0 w) (o : Obj) : Nw w0 (w.alloc o) := ⟨h.b.alloc h.b.size o⟩
theorem Nw.drew {w0 w : World} (h : Nw w0 w) : Nw w0 w.drew := ⟨h.b.drew⟩
theorem Nw.drewN {w0 w : World} (h : Nw w0 w) (n : Nat) : Nw w0 (w.drewN n) := ⟨below_drewN h.b n⟩
theorem Nw.trans {a b c : World} (h : Nw a b) (k : Nw b c) : Nw a c := ⟨h.b.trans (k.b.mono h.b.size)⟩
theorem Nw.refl {w : World} : Nw w w := ⟨Below.refl _ _⟩
theorem Nw.ints {w0 w : World} (h : Nw w0 w) {k : IntKind} {a : Option Addr} {zs : List Int} (hI : Ints w0.heap.size k w0 a zs) : Ints w.heap.size k w a zs := (hI.below h.b).mono h.b.size

/-- How many bytes a number has; these, the lowest one first. -/
def nb (n : Nat) : Nat := (Lib.bitLen n + 7) / 8
def bytesL : Nat → Nat → List Int
  | 0, _ => []
  | k + 1, n => ((n % 256 : Nat) : Int) :: bytesL k (n / 256)
def numL (n : Nat) : List Int := (nb n : Int) :: bytesL (nb n) n
theorem bytesL_length (k n : Nat) : (bytesL k n).length = k := by
  induction k generalizing n with
  | zero => rfl
  | succ k ih => simp [bytesL, ih]
theorem numL_length (n : Nat) : (numL n).length = 1 + nb n := by simp [numL, bytesL_length]; omega
theorem bytesL_snoc (k n : Nat) : bytesL (k + 1) n = bytesL k n ++ [((n / 256 ^ k % 256 : Nat) : Int)] := by
  induction k generalizing n with
  | zero => simp [bytesL]
  | succ k ih =>
    rw [bytesL, ih, bytesL, List.cons_append, Nat.div_div_eq_div_mul, Nat.pow_succ, Nat.mul_comm (256 ^ k)]
theorem bytesL_get (k n j : Nat) (h : j < k) : (bytesL k n)[j]?.getD 0 = ((n / 256 ^ j % 256 : Nat) : Int) := by
  induction k generalizing n j with
  | zero => omega
  | succ k ih =>
    cases j with
    | zero => simp [bytesL]
    | succ j =>
      rw [bytesL, List.getElem?_cons_succ, ih _ _ (by omega), Nat.div_div_eq_div_mul, Nat.pow_succ, Nat.mul_comm (256 ^ j)]
theorem nb_zero : nb 0 = 0 := by decide
theorem nb_small {n : Nat} (h0 : n ≠ 0) (h : n < 256) : nb n = 1 := by
  have := Lib.bitLen_le8 ⟨n, h⟩
  have h2 := Lib.bitLen_half n h0 (by omega)
  simp only at this
  unfold nb
  omega
theorem nb_step {n : Nat} (h : 256 ≤ n) (h2 : n < 18446744073709551616) : nb n = nb (n / 256) + 1 := by
  unfold nb
  rw [Lib.bitLen_shift8 n h h2]
  omega
theorem nb_spec : ∀ n : Nat, n < 18446744073709551616 → n < 256 ^ nb n ∧ (n ≠ 0 → 1 ≤ nb n ∧ 256 ^ (nb n - 1) ≤ n) := by
  intro n
  induction n using Nat.strongRecOn with
  | ind n ih =>
    intro h
    by_cases h0 : n = 0
    · subst h0; rw [nb_zero]; simp
    by_cases h1 : n < 256
    · rw [nb_small h0 h1]; simp; omega
    · rw [nb_step (by omega) h]
      obtain ⟨i1, i2⟩ := ih (n / 256) (by omega) (by omega)
      obtain ⟨i3, i4⟩ := i2 (by omega)
      obtain ⟨k, hk⟩ : ∃ k, nb (n / 256) = k + 1 := ⟨nb (n / 256) - 1, by omega⟩
      rw [hk] at i1 i4 ⊢
      simp only [Nat.add_sub_cancel] at i4 ⊢
      refine ⟨?_, fun _ => ⟨by omega, ?_⟩⟩
      · rw [Nat.pow_succ (m := k + 1)]; omega
      · rw [Nat.pow_succ]; omega
theorem nb_le {n : Nat} (h : n < 18446744073709551616) : nb n ≤ 8 := by
  by_cases h0 : n = 0
  · subst h0; decide
  obtain ⟨_, i2⟩ := nb_spec n h
  obtain ⟨i3, i4⟩ := i2 h0
  by_cases h8 : nb n ≤ 8
  · exact h8
  · have : 256 ^ 8 ≤ 256 ^ (nb n - 1) := Nat.pow_le_pow_right (by decide) (by omega)
    have e : (256 : Nat) ^ 8 = 18446744073709551616 := by decide
    omega
theorem nb_mono {n m : Nat} (hn : n < 18446744073709551616) (hm : m < 18446744073709551616) (h : m ≤ n) : nb m ≤ nb n := by
  by_cases h0 : m = 0
  · subst h0; rw [nb_zero]; omega
  obtain ⟨i3, i4⟩ := (nb_spec m hm).2 h0
  have i1 := (nb_spec n hn).1
  by_cases hh : nb m ≤ nb n
  · exact hh
  · have : 256 ^ nb n ≤ 256 ^ (nb m - 1) := Nat.pow_le_pow_right (by decide) (by omega)
    omega
/-- The highest byte is none. -/
theorem nb_top {n : Nat} (hn : n < 18446744073709551616) (h0 : 1 ≤ nb n) : n / 256 ^ (nb n - 1) % 256 ≠ 0 := by
  have h1 : n ≠ 0 := by intro e; subst e; rw [nb_zero] at h0; omega
  obtain ⟨i1, i2⟩ := nb_spec n hn
  obtain ⟨i3, i4⟩ := i2 h1
  obtain ⟨k, hk⟩ : ∃ k, nb n = k + 1 := ⟨nb n - 1, by omega⟩
  rw [hk] at i1 i4 ⊢
  simp only [Nat.add_sub_cancel] at i4 ⊢
  have hp : 0 < 256 ^ k := Nat.pow_pos (by decide)
  have a1 : 1 ≤ n / 256 ^ k := (Nat.le_div_iff_mul_le hp).2 (by omega)
  have a2 : n / 256 ^ k < 256 := (Nat.div_lt_iff_lt_mul hp).2 (by rw [Nat.pow_succ] at i1; omega)
  omega

theorem tab_at (i : Int) (hh : i.toNat < Lib.len8tab.size) (h0 : 0 ≤ i) (h1 : i ≤ 255) : ((Lib.len8tab[i.toNat]'hh).toNat : Int) = (Lib.bitLen i.toNat : Int) := by
  rw [← Lib.len8_of i h0 h1]
  unfold Lib.len8
  rw [getElem?_pos Lib.len8tab i.toNat hh]
  rfl
theorem sh32 {x : Int} (h0 : 0 ≤ x) (h1 : x ≤ 18446744073709551615) (h : 4294967296 ≤ x) : Lib.bitLen x.toNat = 32 + Lib.bitLen (x / 4294967296).toNat := by
  rw [Lib.bitLen_shift32 x.toNat (by omega) (by omega)]; congr 2; omega
theorem sh16 {x : Int} (h0 : 0 ≤ x) (h1 : x ≤ 18446744073709551615) (h : 65536 ≤ x) : Lib.bitLen x.toNat = 16 + Lib.bitLen (x / 65536).toNat := by
  rw [Lib.bitLen_shift16 x.toNat (by omega) (by omega)]; congr 2; omega
theorem sh8 {x : Int} (h0 : 0 ≤ x) (h1 : x ≤ 18446744073709551615) (h : 256 ≤ x) : Lib.bitLen x.toNat = 8 + Lib.bitLen (x / 256).toNat := by
  rw [Lib.bitLen_shift8 x.toNat (by omega) (by omega)]; congr 2; omega
set_option maxHeartbeats 4000000 in
set_option maxRecDepth 100000 in
attribute [local go_sem] Lib.len8tab_size in
theorem len64 (n : Nat) (h1 : (n : Int) ≤ 18446744073709551615) (w : World) :
    Calls Try.prog 35 #[.int .u64 (n : Int)] w fun e w' => e = .returned (.int .i64 (Lib.bitLen n)) ∧ w = w' := by
  obtain ⟨x, hx⟩ : ∃ x : Int, (n : Int) = x := ⟨_, rfl⟩
  have hn : n = x.toNat := by omega
  have h0 : 0 ≤ x := by omega
  rw [hx] at h1 ⊢
  subst hn
  clear hx
  go_enter Try.func35, Try.ntmps35
  go_wp2
  all_goals (go_ret; refine ⟨congrArg Ending.returned (congrArg (Value.int IntKind.i64) ?_), rfl⟩)
  all_goals first
    | (have b0 : 0 ≤ x / 4294967296 ∧ x / 4294967296 ≤ 4294967295 := by omega
       have s0 := sh32 (x := x) (by omega) (by omega) (by omega)
       generalize x / 4294967296 = y at *
       have b1 : 0 ≤ y / 65536 ∧ y / 65536 ≤ 65535 := by omega
       have s1 := sh16 (x := y) (by omega) (by omega) (by omega)
       generalize y / 65536 = z at *
       have b2 : 0 ≤ z / 256 ∧ z / 256 ≤ 16777215 := by omega
       have s2 := sh8 (x := z) (by omega) (by omega) (by omega)
       generalize z / 256 = t at *
       rw [tab_at t _ (by omega) (by omega)]
       have l := Lib.bitLen_le8' t (by omega) (by omega)
       rw [s0, s1, s2]
       generalize Lib.bitLen t.toNat = u at *
       simp only [wrap64]
       omega)
    | (have b0 : 0 ≤ x / 4294967296 ∧ x / 4294967296 ≤ 4294967295 := by omega
       have s0 := sh32 (x := x) (by omega) (by omega) (by omega)
       generalize x / 4294967296 = y at *
       have b1 : 0 ≤ y / 65536 ∧ y / 65536 ≤ 65535 := by omega
       have s1 := sh16 (x := y) (by omega) (by omega) (by omega)
       generalize y / 65536 = z at *
       rw [tab_at z _ (by omega) (by omega)]
       have l := Lib.bitLen_le8' z (by omega) (by omega)
       rw [s0, s1]
       generalize Lib.bitLen z.toNat = u at *
       simp only [wrap64]
       omega)
    | (have b0 : 0 ≤ x / 4294967296 ∧ x / 4294967296 ≤ 4294967295 := by omega
       have s0 := sh32 (x := x) (by omega) (by omega) (by omega)
       generalize x / 4294967296 = y at *
       have b1 : 0 ≤ y / 256 ∧ y / 256 ≤ 16777215 := by omega
       have s1 := sh8 (x := y) (by omega) (by omega) (by omega)
       generalize y / 256 = z at *
       rw [tab_at z _ (by omega) (by omega)]
       have l := Lib.bitLen_le8' z (by omega) (by omega)
       rw [s0, s1]
       generalize Lib.bitLen z.toNat = u at *
       simp only [wrap64]
       omega)
    | (have b0 : 0 ≤ x / 4294967296 ∧ x / 4294967296 ≤ 4294967295 := by omega
       have s0 := sh32 (x := x) (by omega) (by omega) (by omega)
       generalize x / 4294967296 = y at *
       rw [tab_at y _ (by omega) (by omega)]
       have l := Lib.bitLen_le8' y (by omega) (by omega)
       rw [s0]
       generalize Lib.bitLen y.toNat = u at *
       simp only [wrap64]
       omega)
    | (have b0 : 0 ≤ x / 65536 ∧ x / 65536 ≤ 281474976710655 := by omega
       have s0 := sh16 (x := x) (by omega) (by omega) (by omega)
       generalize x / 65536 = y at *
       have b1 : 0 ≤ y / 256 ∧ y / 256 ≤ 16777215 := by omega
       have s1 := sh8 (x := y) (by omega) (by omega) (by omega)
       generalize y / 256 = z at *
       rw [tab_at z _ (by omega) (by omega)]
       have l := Lib.bitLen_le8' z (by omega) (by omega)
       rw [s0, s1]
       generalize Lib.bitLen z.toNat = u at *
       simp only [wrap64]
       omega)
    | (have b0 : 0 ≤ x / 65536 ∧ x / 65536 ≤ 281474976710655 := by omega
       have s0 := sh16 (x := x) (by omega) (by omega) (by omega)
       generalize x / 65536 = y at *
       rw [tab_at y _ (by omega) (by omega)]
       have l := Lib.bitLen_le8' y (by omega) (by omega)
       rw [s0]
       generalize Lib.bitLen y.toNat = u at *
       simp only [wrap64]
       omega)
    | (have b0 : 0 ≤ x / 256 ∧ x / 256 ≤ 16777215 := by omega
       have s0 := sh8 (x := x) (by omega) (by omega) (by omega)
       generalize x / 256 = y at *
       rw [tab_at y _ (by omega) (by omega)]
       have l := Lib.bitLen_le8' y (by omega) (by omega)
       rw [s0]
       generalize Lib.bitLen y.toNat = u at *
       simp only [wrap64]
       omega)
    | (rw [tab_at x _ (by omega) (by omega)]
       have l := Lib.bitLen_le8' x (by omega) (by omega)
       generalize Lib.bitLen x.toNat = u at *
       simp only [wrap64]
       omega)

/-- What a call that makes a row of bytes of its own tells. -/
def OwnR (w : World) (zs : List Int) (e : Ending) (w' : World) : Prop :=
  ∃ v, e = .returned v ∧ w'.ownsRow w.heap.size 5 1 v zs.length (zs.map (.int .u8)) ∧ Nw w w'

theorem info_u8 : (Try.prog.info? 5).map (fun i => (i.zero, i.size, i.bytes)) = some (some (.int .u8 0), 1, 1) := by kernel_rfl
theorem info_parts8 {i? : Option TypeInfo} {z : Option Value} {s b : Nat} (h : i?.map (fun i => (i.zero, i.size, i.bytes)) = some (z, s, b)) : ∃ i, i? = some i ∧ i.zero = z ∧ i.size = s ∧ i.bytes = b := by
  cases i? with
  | none => cases h
  | some i =>
    simp only [Option.map_some, Option.some.injEq, Prod.mk.injEq] at h
    exact ⟨i, rfl, h.1, h.2.1, h.2.2⟩

set_option maxHeartbeats 2000000 in
set_option maxRecDepth 100000 in
attribute [local go_sem] Lib.run_eql_slice_nil in
theorem clone_any (a : Option Addr) (len cap : Nat) (zs : List Int) (hl : zs.length = len) (hreach : len ≤ 140737488355000) (w : World) (hI : Ints w.heap.size .u8 w a zs) :
    Calls Try.prog 36 #[.slice a len cap] w (OwnR w zs) := by
  subst hl
  cases a with
  | none =>
    rcases hI with rfl | ⟨b, off, hh, _⟩
    · go_enter Try.func36, Try.ntmps36
      go_wp2
      go_ret
      exact ⟨_, rfl, ⟨rfl, .inl ⟨rfl, rfl⟩⟩, Nw.refl⟩
    · cases hh
  | some p =>
    obtain ⟨i0, hi, hz0, hz1, hz2⟩ := info_parts8 info_u8
    go_enter Try.func36, Try.ntmps36
    go_wp2_with (at_builtin; refine wpList_append_ints _ rfl _ _ 25 rfl w.heap.size 5 i0 (.int .u8 0) 1 Try.underlying25 hi hz0 hz1 hz2 rfl _ 0 [] rfl (World.ownsRow_made _ #[] 0 (Nat.le_refl _) (Nat.zero_le _) (by simp)) (some p) zs.length cap .u8 zs w.heap.size rfl rfl (hI.below ((Below.refl _ w).alloc (Nat.le_refl _) _)) (by unfold maxLen; omega) (by omega) (by simp) ?_; intro v1 W1 hown1 hgrow1; have hb1 : Below w.heap.size w W1 := ((Below.refl _ w).alloc (Nat.le_refl _) _).grown hgrow1 (by simp) (fun k e => by cases e; exact Nat.le_refl _); clear hgrow1; simp only [Nat.zero_add, List.nil_append] at hown1)
    go_ret
    exact ⟨_, rfl, hown1, ⟨hb1⟩⟩

end Go.Proofs.Ytphcdndohdnolaa
