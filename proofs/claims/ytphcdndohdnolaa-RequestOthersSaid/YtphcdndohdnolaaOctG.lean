/-
  TEXTS: bytes as strings; octet.Text; the tape's Text.
-/
import Derived.Test.YtphcdndohdnolaaOctF
import Derived.Shelf.Bytes.SlEqualAll
import Derived.Lib.AppendStr
namespace Go.Proofs.Ytphcdndohdnolaa
open Go.RowKit Go.Shelf
set_option linter.unusedVariables false

/-- The bytes of a string, as numbers. -/
def strB (s : ByteArray) : List Int := s.data.toList.map fun b => (b.toNat : Int)
theorem strB_length (s : ByteArray) : (strB s).length = s.size := by unfold strB; rw [List.length_map]; rfl
theorem strB_byte (s : ByteArray) : ∀ x ∈ strB s, isByte x := by
  intro x hx
  simp only [strB, List.mem_map] at hx
  obtain ⟨b, _, rfl⟩ := hx
  have := b.toNat_lt
  exact ⟨by omega, by omega⟩
theorem strB_cells (s : ByteArray) : Lib.strCells s = (strB s).map (.int .u8) := by simp [Lib.strCells, strB]
theorem strOf_strB (s : ByteArray) : strOfNums (strB s) = s := by
  unfold strOfNums strB
  rw [List.map_map]
  have : (s.data.toList.map ((fun n : Int => UInt8.ofNat n.toNat) ∘ fun b : UInt8 => (b.toNat : Int))) = s.data.toList := by
    conv => rhs; rw [← List.map_id s.data.toList]
    apply List.map_congr_left
    intro b _
    simp
  rw [this]
theorem strB_strOf (zs : List Int) (h : ∀ x ∈ zs, isByte x) : strB (strOfNums zs) = zs := by
  unfold strB
  rw [strOfNums_data, List.map_map]
  conv => rhs; rw [← List.map_id zs]
  apply List.map_congr_left
  intro x hx
  obtain ⟨h1, h2⟩ := h x hx
  simp only [Function.comp, id]
  rw [UInt8.toNat_ofNat']
  omega
theorem strOf_inj {a b : List Int} (ha : ∀ x ∈ a, isByte x) (hb : ∀ x ∈ b, isByte x) : strOfNums a = strOfNums b ↔ a = b :=
  ⟨fun h => by rw [← strB_strOf a ha, h, strB_strOf b hb], fun h => by rw [h]⟩

theorem conv_run {P : Program} {w : World} (src dst e : TypeId) (hs : P.underlying src = some (.slice e)) (he : P.underlying e = some (.int .u8)) (hd : P.underlying dst = some .string)
    {ax : Option Addr} {len n₀ : Nat} (c : Nat) {zs : List Int} (hl : zs.length = len) (hI : Ints n₀ .u8 w ax zs) : (convert src dst (.slice ax len c)).run P w = .ok (.string (strOfNums zs)) w := by
  rcases hI with rfl | ⟨b, off, rfl, hb, hc⟩
  · subst hl
    exact run_convert_bytes_zero w src e hs he ax c dst hd
  · refine run_convert_bytes_arg (P := P) w src e hs he b off len c zs hl (fun i hi => ?_) dst hd
    rw [hc i (by omega)]; simp [List.getD]
theorem Ints.drop {n₀ : Nat} {k : IntKind} {A : World} {b off : Nat} {zs : List Int} (m : Nat) (h : Ints n₀ k A (some ⟨b, off, none⟩) zs) : Ints n₀ k A (some ⟨b, off + m, none⟩) (zs.drop m) := by
  rcases h with rfl | ⟨b', off', ha, hb, hc⟩
  · exact .inl (by simp)
  · simp only [Option.some.injEq, Addr.mk.injEq, and_true] at ha
    obtain ⟨rfl, rfl⟩ := ha
    refine .inr ⟨b, off + m, rfl, hb, fun j hj => ?_⟩
    rw [List.length_drop] at hj
    have := hc (m + j) (by omega)
    rw [← Nat.add_assoc] at this
    rw [this, List.getElem?_drop]

def txtP (zs : List Int) (most : Int) : Prop := numS zs ≠ 0 ∧ 0 ≤ most ∧ (numV zs).1 ≤ most ∧ (numV zs).1 ≤ (zs.length : Int) - numS zs
instance (zs : List Int) (most : Int) : Decidable (txtP zs most) := by unfold txtP; infer_instance
def txtL (zs : List Int) : List Int := (zs.drop (numS zs)).take (numV zs).1.toNat
def txtV (zs : List Int) (most : Int) : ByteArray := if txtP zs most then strOfNums (txtL zs) else ByteArray.empty
def txtS (zs : List Int) (most : Int) : Nat := if txtP zs most then numS zs + (numV zs).1.toNat else 0

theorem txt_no {zs : List Int} {most : Int} (h : ¬ txtP zs most) : txtV zs most = ByteArray.empty ∧ txtS zs most = 0 := by unfold txtV txtS; rw [if_neg h, if_neg h]; exact ⟨rfl, rfl⟩
theorem txt_yes {zs : List Int} {most : Int} (h : txtP zs most) : txtV zs most = strOfNums (txtL zs) ∧ txtS zs most = numS zs + (numV zs).1.toNat := by unfold txtV txtS; rw [if_pos h, if_pos h]; exact ⟨rfl, rfl⟩

set_option maxHeartbeats 2000000 in
theorem text1_a (a : Option Addr) (len cap k n : Nat) (B : Nat) (most : Int) (w : World) (hreach : len ≤ 140737488355000) (hcap : len ≤ cap) (hkl : k ≤ len) (hk9 : k ≤ 9) (hn1 : isU64 n)
    (HN : Hid (Calls Try.prog 56 #[.slice a len cap] w fun e W' => e = .returned (.tuple #[.int .u64 (n : Int), .int .i64 (k : Int)]) ∧ Nw w W')) (hB : w.cell? ⟨B, 0, none⟩ = some (.int .i64 most)) (hk0 : k = 0) :
    Calls Try.prog 58 #[.slice a len cap, .pointer (some ⟨B, 0, none⟩)] w fun e W' => e = .returned (.tuple #[.string (ByteArray.empty), .int .i64 (0)]) ∧ Nw w W' := by
  have hBl := (cell_lt hB).1
  subst hk0
  go_enter Try.func58, Try.ntmps58
  go_wp2_with fail
  refine HN.out.mono ?_
  rintro e W ⟨rfl, hW⟩
  have hB2 : W.cell? ⟨B, 0, none⟩ = some (.int .i64 most) := (hW.b.cell (p := ⟨B, 0, none⟩) hBl).trans hB
  have HW := Lib.hid hW
  clear hW
  go_wp2_with fail
  go_ret2
  exact ⟨rfl, HW.out⟩
set_option maxHeartbeats 2000000 in
theorem text1_b (a : Option Addr) (len cap k n : Nat) (B : Nat) (most : Int) (w : World) (hreach : len ≤ 140737488355000) (hcap : len ≤ cap) (hkl : k ≤ len) (hk9 : k ≤ 9) (hn1 : isU64 n)
    (HN : Hid (Calls Try.prog 56 #[.slice a len cap] w fun e W' => e = .returned (.tuple #[.int .u64 (n : Int), .int .i64 (k : Int)]) ∧ Nw w W')) (hB : w.cell? ⟨B, 0, none⟩ = some (.int .i64 most)) (hd : ((k : Int) == 0) = false) (hm0 : most < 0) :
    Calls Try.prog 58 #[.slice a len cap, .pointer (some ⟨B, 0, none⟩)] w fun e W' => e = .returned (.tuple #[.string (ByteArray.empty), .int .i64 (0)]) ∧ Nw w W' := by
  have hBl := (cell_lt hB).1
  go_enter Try.func58, Try.ntmps58
  go_wp2_with fail
  refine HN.out.mono ?_
  rintro e W ⟨rfl, hW⟩
  have hB2 : W.cell? ⟨B, 0, none⟩ = some (.int .i64 most) := (hW.b.cell (p := ⟨B, 0, none⟩) hBl).trans hB
  have HW := Lib.hid hW
  clear hW
  go_wp2_with fail
  go_ret2
  exact ⟨rfl, HW.out⟩
set_option maxHeartbeats 2000000 in
theorem text1_c (a : Option Addr) (len cap k n : Nat) (B : Nat) (m : Nat) (w : World) (hreach : len ≤ 140737488355000) (hcap : len ≤ cap) (hkl : k ≤ len) (hk9 : k ≤ 9) (hn1 : isU64 n)
    (HN : Hid (Calls Try.prog 56 #[.slice a len cap] w fun e W' => e = .returned (.tuple #[.int .u64 (n : Int), .int .i64 (k : Int)]) ∧ Nw w W')) (hB : w.cell? ⟨B, 0, none⟩ = some (.int .i64 (m : Int))) (hd : ((k : Int) == 0) = false) (hm : m ≤ 9223372036854775807) (q : Nat) (hq1 : q ≤ len - k) (hq : min (m : Int) ((len : Int) - k) = (q : Int)) (hqn : q < n) :
    Calls Try.prog 58 #[.slice a len cap, .pointer (some ⟨B, 0, none⟩)] w fun e W' => e = .returned (.tuple #[.string (ByteArray.empty), .int .i64 (0)]) ∧ Nw w W' := by
  have hBl := (cell_lt hB).1
  have HQ := Lib.hid hq
  clear hq
  unfold isU64 at hn1
  go_enter Try.func58, Try.ntmps58
  go_wp2_with fail
  refine HN.out.mono ?_
  rintro e W ⟨rfl, hW⟩
  have hB2 : W.cell? ⟨B, 0, none⟩ = some (.int .i64 (m : Int)) := (hW.b.cell (p := ⟨B, 0, none⟩) hBl).trans hB
  have HW := Lib.hid hW
  clear hW
  go_wp2_with fail
  all_goals first
    | (go_ret2; exact ⟨rfl, HW.out⟩)
    | (exfalso; have hh : 0 ≤ (m : Int) ∧ (n : Int) ≤ min (m : Int) ((len : Int) - k) := (by assumption); have := HQ.out; omega)
set_option maxHeartbeats 2000000 in
theorem text1_d (b off : Nat) (len cap k n : Nat) (B : Nat) (m : Nat) (w : World) (hreach : len ≤ 140737488355000) (hcap : len ≤ cap) (hkl : k ≤ len) (hk9 : k ≤ 9) (hn1 : isU64 n) (hkp : 0 < k)
    (HN : Hid (Calls Try.prog 56 #[.slice (some ⟨b, off, none⟩) len cap] w fun e W' => e = .returned (.tuple #[.int .u64 (n : Int), .int .i64 (k : Int)]) ∧ Nw w W')) (hB : w.cell? ⟨B, 0, none⟩ = some (.int .i64 (m : Int)))
    (hm : m ≤ 9223372036854775807) (q : Nat) (hq1 : q ≤ len - k) (hq : min (m : Int) ((len : Int) - k) = (q : Int)) (hqn : n ≤ q) (zs : List Int) (hl : zs.length = len) (hI : Ints w.heap.size .u8 w (some ⟨b, off, none⟩) zs) :
    Calls Try.prog 58 #[.slice (some ⟨b, off, none⟩) len cap, .pointer (some ⟨B, 0, none⟩)] w fun e W' => e = .returned (.tuple #[.string (strOfNums ((zs.drop k).take n)), .int .i64 (((k + n : Nat) : Int))]) ∧ Nw w W' := by
  have hd : ((k : Int) == 0) = false := by rw [beq_eq_false_iff_ne]; omega
  have hBl := (cell_lt hB).1
  have HQ := Lib.hid hq
  have hnl : n ≤ len - k := by omega
  have HI := Lib.hid hI
  have HZ : Hid (((zs.drop k).take n).length = n) := by show _ = _; rw [List.length_take, List.length_drop]; omega
  have HT := Lib.hid ((hI.drop k).take n)
  have HE : cap = k → Hid ((zs.drop k).take n = []) := fun h => by show _ = _; exact List.length_eq_zero_iff.1 (by rw [HZ.out]; omega)
  unfold isU64 at hn1
  obtain ⟨ys, hys⟩ : ∃ ys, (zs.drop k).take n = ys := ⟨_, rfl⟩
  rw [hys] at HZ HT ⊢
  simp only [hys] at HE
  clear hl hI hq hys HI
  by_cases hck : cap = k
  · have HE := HE hck
    have hn0 : n = 0 := by omega
    have hlk : len = k := by omega
    have HY := HE.out
    subst hck hn0 hlk HY
    clear HE HT HZ
    go_enter Try.func58, Try.ntmps58
    go_wp2_with fail
    refine HN.out.mono ?_
    rintro e W ⟨rfl, hW⟩
    have hB2 : W.cell? ⟨B, 0, none⟩ = some (.int .i64 (m : Int)) := (hW.b.cell (p := ⟨B, 0, none⟩) hBl).trans hB
    have hcv := conv_run (P := Try.prog) (w := W) 25 9 5 Try.underlying25 Try.underlying5 Try.underlying9 (ax := some ⟨b, off, none⟩) (len := 0) (n₀ := 0) 0 (zs := []) rfl (.inl rfl)
    have HW := Lib.hid hW
    clear hW
    go_wp2_with fail
    go_ret2
    exact ⟨rfl, HW.out⟩
  · clear HE
    go_enter Try.func58, Try.ntmps58
    go_wp2_with fail
    refine HN.out.mono ?_
    rintro e W ⟨rfl, hW⟩
    have hB2 : W.cell? ⟨B, 0, none⟩ = some (.int .i64 (m : Int)) := (hW.b.cell (p := ⟨B, 0, none⟩) hBl).trans hB
    have hcv := conv_run (P := Try.prog) (w := W) 25 9 5 Try.underlying25 Try.underlying5 Try.underlying9 (cap - k) HZ.out (HT.out.below hW.b)
    have HW := Lib.hid hW
    clear hW
    go_wp2_with fail
    · exfalso; have hh : (m : Int) < 0 ∨ min (m : Int) ((len : Int) - k) < (n : Int) := (by assumption); have := HQ.out; omega
    · go_ret2
      exact ⟨rfl, HW.out⟩

theorem text1_any (a : Option Addr) (cap : Nat) (zs : List Int) (hreach : zs.length ≤ 140737488355000) (hcap : zs.length ≤ cap) (hz : ∀ x ∈ zs, isByte x) (B : Nat) (most : Int) (hm63 : most ≤ 9223372036854775807) (w : World) (hI : Ints w.heap.size .u8 w a zs) (hB : w.cell? ⟨B, 0, none⟩ = some (.int .i64 most)) :
    Calls Try.prog 58 #[.slice a zs.length cap, .pointer (some ⟨B, 0, none⟩)] w fun e W' => e = .returned (.tuple #[.string (txtV zs most), .int .i64 (txtS zs most : Int)]) ∧ Nw w W' := by
  have HN := number_of a zs.length cap zs rfl hreach hcap hz w hI
  rw [numV_size] at HN
  obtain ⟨hn0, hn1⟩ := numV_range zs hz
  have hkl := numS_le zs
  have hk9 := numS_nine zs
  obtain ⟨n, hn⟩ : ∃ n : Nat, (numV zs).1 = (n : Int) := ⟨(numV zs).1.toNat, by omega⟩
  have hu : isU64 (n : Int) := by rw [hn] at hn0 hn1; exact ⟨hn0, hn1⟩
  rw [hn] at HN
  by_cases hk0 : numS zs = 0
  · obtain ⟨e1, e2⟩ := txt_no (zs := zs) (most := most) (fun h => h.1 hk0)
    rw [e1, e2]
    exact text1_a a zs.length cap _ n B most w hreach hcap hkl hk9 hu HN hB hk0
  have hd : (((numS zs : Nat) : Int) == 0) = false := by rw [beq_eq_false_iff_ne]; omega
  by_cases hm0 : most < 0
  · obtain ⟨e1, e2⟩ := txt_no (zs := zs) (most := most) (fun h => by have := h.2.1; omega)
    rw [e1, e2]
    exact text1_b a zs.length cap _ n B most w hreach hcap hkl hk9 hu HN hB hd hm0
  obtain ⟨m, rfl⟩ := Int.eq_ofNat_of_zero_le (show 0 ≤ most by omega)
  by_cases hqn : min m (zs.length - numS zs) < n
  · obtain ⟨e1, e2⟩ := txt_no (zs := zs) (most := m) (fun h => by have h1 := h.2.2.1; have h2 := h.2.2.2; rw [hn] at h1 h2; omega)
    rw [e1, e2]
    exact text1_c a zs.length cap _ n B m w hreach hcap hkl hk9 hu HN hB hd (by omega) _ (by omega) (by omega) hqn
  · obtain ⟨e1, e2⟩ := txt_yes (zs := zs) (most := m) ⟨hk0, by omega, by rw [hn]; omega, by rw [hn]; omega⟩
    rw [e1, e2]
    unfold txtL
    rw [hn, Int.toNat_natCast]
    rcases hI with h0 | ⟨b, off, rfl, hb, hc⟩
    · rw [h0] at hkl hk0; simp at hkl; omega
    · exact text1_d b off zs.length cap _ n B m w hreach hcap hkl hk9 hu (by omega) HN hB (by omega) (min m (zs.length - numS zs)) (by omega) (by omega) (by omega) zs rfl (.inr ⟨b, off, rfl, hb, hc⟩)

def txtR (zs : List Int) (torn : Bool) (most : Int) : ByteArray := if torn then ByteArray.empty else txtV zs most
theorem txtS_le {zs : List Int} {most : Int} (hz : ∀ x ∈ zs, isByte x) : txtS zs most ≤ zs.length := by
  unfold txtS
  split
  · rename_i h
    have h1 := h.2.2.2
    have h2 := (numV_range zs hz).1
    have := numS_le zs
    omega
  · omega
set_option maxHeartbeats 1000000 in
theorem ttext_any (t : Nat) (zs : List Int) (torn : Bool) (most : Int) (hm63 : most ≤ 9223372036854775807) (w : World) (h : TapeAt w t zs torn) :
    Calls Try.prog 52 #[.pointer (some ⟨t, 0, none⟩), .int .i64 most] w (StepP (.string (txtR zs torn most)) t (stepT zs torn (txtS zs most)).1 (stepT zs torn (txtS zs most)).2 w) := by
  have h' := h.nw (Nw.refl.alloc (.cells #[.int .i64 most] 3))
  have HC := Lib.hid ((next_str t zs torn (.string (txtV zs most)) (txtS zs most) (txtS_le h.by_) w.heap.size _ h' (fun _ a cap hc hI => text1_any a cap zs h.le hc h.by_ _ most hm63 _ (hI.mono (Nat.le_of_lt h'.lt)) (by simp))).mono
    (R' := StepP (.string (txtR zs torn most)) t (stepT zs torn (txtS zs most)).1 (stepT zs torn (txtS zs most)).2 (w.alloc (.cells #[.int .i64 most] 3))) (by
    rintro e w' ⟨rfl, h1, h2⟩
    refine ⟨?_, h1, h2⟩
    unfold txtR
    cases torn
    · by_cases h0 : txtS zs most = 0
      · have : txtV zs most = ByteArray.empty := by
          by_cases hp : txtP zs most
          · have := (txt_yes hp).2; have := hp.1; omega
          · exact (txt_no hp).1
        simp only [Bool.false_eq_true, if_false, h0, if_true, this]
      · simp only [Bool.false_eq_true, if_false, h0]
    · rfl))
  generalize txtR zs torn most = V at HC ⊢
  generalize stepT zs torn (txtS zs most) = S at HC ⊢
  clear h h'
  go_enter Try.func52, Try.ntmps52
  go_wp2_with fail
  refine HC.out.mono ?_
  rintro e w1 ⟨rfl, h1, h2⟩
  go_wp2_with fail
  go_ret
  exact ⟨rfl, h1, (Up.of_nw (Nw.refl.alloc _)).trans h2⟩

end Go.Proofs.Ytphcdndohdnolaa
