/-
  THE WALK OF octet.Unpack.
-/
import Derived.Test.YtciagdechmkgjaaOctJ
namespace Go.Proofs.Ytciagdechmkgjaa
open Go.RowKit Go.Shelf
set_option linter.unusedVariables false

/-- The i-th byte of words. -/
def unpB (zs : List Int) (i : Nat) : Int := (zs[i / 8]?.getD 0) / (256 ^ (i % 8) : Nat) % 256
def unpL (zs : List Int) (n : Nat) : List Int := (List.range n).map (unpB zs)
theorem unpL_length (zs : List Int) (n : Nat) : (unpL zs n).length = n := by simp [unpL]
theorem unpL_set (zs : List Int) (n k : Nat) (hk : k < n) : (unpL zs k ++ List.replicate (n - k) 0).set k (unpB zs k) = unpL zs (k + 1) ++ List.replicate (n - (k + 1)) 0 := by
  apply List.ext_getElem
  · simp [unpL]; omega
  · intro i h1 h2
    simp only [List.getElem_set, List.getElem_append, unpL_length]
    by_cases h : k = i
    · subst h; simp [unpL]
    · rw [if_neg h]
      by_cases h' : i < k
      · rw [dif_pos h', dif_pos (by omega)]; simp [unpL]
      · rw [dif_neg h', dif_neg (by omega)]; simp

theorem p256 (m : Nat) : (2 : Int) ^ (8 * m) = ((256 ^ m : Nat) : Int) := by rw [Int.pow_mul, Int.natCast_pow]; rfl

set_option maxRecDepth 100000 in
set_option maxHeartbeats 2000000 in
theorem unpack_no (a : Option Addr) (len cap : Nat) (hreach : len * 8 ≤ 140737488351232) (n : Int) (h : n < 0 ∨ 8 * (len : Int) < n) (w : World) :
    Calls Try.prog 12 #[.slice a len cap, .int .i64 n] w fun e w' => e = .returned (.tuple #[.string ByteArray.empty, .int .i64 1]) ∧ w = w' := by
  rcases h with h | h
  · go_enter Try.func12, Try.ntmps12
    go_wp2_with fail
    go_ret2
    exact ⟨rfl, rfl⟩
  · have h' : ¬ n < 0 := by omega
    go_enter Try.func12, Try.ntmps12
    go_wp2_with fail
    go_ret2
    exact ⟨rfl, rfl⟩

set_option maxRecDepth 100000 in
set_option maxHeartbeats 2000000 in
theorem unpack_yes (a : Option Addr) (len cap : Nat) (zs : List Int) (hl : zs.length = len) (hz : ∀ x ∈ zs, isU64 x) (hreach : len * 8 ≤ 140737488351232) (n : Nat) (h : n ≤ 8 * len) (w : World) (hI : Ints w.heap.size .u64 w a zs) :
    Calls Try.prog 12 #[.slice a len cap, .int .i64 (n : Int)] w fun e w' => e = .returned (.tuple #[.string (strOfNums (unpL zs n)), .int .i64 0]) ∧ Nw w w' := by
  obtain ⟨i0, hi, hz0, hz1, hz2⟩ := info_parts8 info_u8
  have HI := Lib.hid hI
  have HL := Lib.hid hl
  have HZ := Lib.hid hz
  clear hI hl hz
  go_enter Try.func12, Try.ntmps12
  go_wp2_with (at_make; refine wpList_make_ints rfl _ _ 23 rfl w.heap.size 5 i0 .u8 Try.underlying23 hi hz0 hz1 n rfl rfl (by rw [hz2]; omega) (by unfold maxLen; omega) (Nat.le_refl _) ?_; intro w1 hrow hg)
  have hB1 := Below.of_grown hg
  clear hg
  go_loopw [7, 21] (fun i j wr => ∃ k : Nat, k ≤ n ∧ j = .int .i64 k ∧ Row wr w.heap.size 5 .u8 (unpL zs k ++ List.replicate (n - k) 0) ∧ Below w.heap.size w wr) (fun _ j _ => n - (intOf j).toNat)
  case atStart => exact ⟨0, Nat.zero_le _, rfl, by simpa [unpL] using hrow, hB1⟩
  case round =>
    clear hrow hB1
    obtain ⟨k, hk, rfl, hrow, hB⟩ := hrel
    have hlr : (unpL zs k ++ List.replicate (n - k) 0).length = n := by rw [List.length_append, unpL_length, List.length_replicate]; omega
    by_cases hlt : k < n
    · obtain ⟨b, off, rfl, hb, hc⟩ := HI.out.at (j := k / 8) (by rw [HL.out]; omega)
      have hc2 := (hB.cell (p := ⟨b, off + k / 8, none⟩) hb).trans hc
      obtain ⟨y, hrc⟩ : ∃ y, wr.cell? ⟨w.heap.size, k, none⟩ = some (.int .u8 y) := ⟨_, hrow.cellD (j := k) (by omega)⟩
      have hrf := hrow.frozen k
      clear hc
      obtain ⟨x, hx⟩ : ∃ x, zs[k / 8]'(by rw [HL.out]; omega) = x := ⟨_, rfl⟩
      have hxu := HZ.out _ (List.getElem_mem (l := zs) (n := k / 8) (by rw [HL.out]; omega))
      rw [hx] at hc2 hxu
      obtain ⟨x0, x1⟩ := hxu
      have HX : Hid (unpB zs k = x / (256 ^ (k % 8) : Nat) % 256) := by show _ = _; unfold unpB; rw [List.getElem?_eq_getElem (by rw [HL.out]; omega), hx]; rfl
      have hq : k / 8 < len := by omega
      have HRW := Lib.hid hrow
      have HB := Lib.hid hB
      clear hx hrow hlr hB
      go_wp2_with fail
      go_roundw
      case rel =>
        refine ⟨k + 1, by omega, by go_num, ?_, HB.out.setCell (p := ⟨w.heap.size, k, none⟩) (Nat.le_refl _) _⟩
        have := HRW.out.set k (unpB zs k)
        rw [unpL_set _ _ _ hlt, HX.out, ← p256] at this
        exact this
      case measure => simp [intOf]; omega
    · obtain rfl : k = n := by omega
      rw [Nat.sub_self, List.replicate_zero, List.append_nil] at hrow
      have hcv := cv8 (len := k) k (unpL_length zs k) hrow.ints
      have HB := Lib.hid hB
      clear hB hrow hlr
      go_wp2_with fail
      go_ret2
      exact ⟨rfl, ⟨HB.out⟩⟩

end Go.Proofs.Ytciagdechmkgjaa
