/-
  THE WALK OF RequestLong.
-/
import Derived.Deep.DeepCutAuto
import Derived.Test.YtphcdndohdnolaaRqZ
namespace Go.Proofs.Ytphcdndohdnolaa
open Go.RowKit Go.Shelf
set_option linter.unusedVariables false

set_option maxRecDepth 100000 in
set_option maxHeartbeats 2000000 in
theorem letters_any (n : Nat) (h : n ≤ 300) (w : World) :
    Calls Try.prog 18 #[.int .i64 (n : Int)] w fun e w' => ∃ s : ByteArray, s.size = n ∧ e = .returned (.string s) ∧ Nw w w' := by
  obtain ⟨i0, hi, hz0, hz1, hz2⟩ := info_parts8 info_u8
  go_enter Try.func18, Try.ntmps18
  go_wp2_with (at_make; refine wpList_make_ints rfl _ _ 25 rfl w.heap.size 5 i0 .u8 Try.underlying25 hi hz0 hz1 n rfl rfl (by rw [hz2]; omega) (by unfold maxLen; omega) (Nat.le_refl _) ?_; intro w1 hrow hg)
  have hB1 := Below.of_grown hg
  clear hg
  go_loopw [4] (fun j wr => ∃ k : Nat, ∃ zs : List Int, k ≤ n ∧ j = .int .i64 k ∧ zs.length = n ∧ Row wr w.heap.size 5 .u8 zs ∧ Below w.heap.size w wr) (fun j _ => n - (intOf j).toNat)
  case atStart => exact ⟨0, _, Nat.zero_le _, rfl, List.length_replicate, hrow, hB1⟩
  case round =>
    clear hrow hB1
    obtain ⟨k, zs, hk, rfl, hl, hrow, hB⟩ := hrel
    by_cases hlt : k < n
    · obtain ⟨y, hrc⟩ : ∃ y, wr.cell? ⟨w.heap.size, k, none⟩ = some (.int .u8 y) := ⟨_, hrow.cellD (j := k) (by omega)⟩
      have hrf := hrow.frozen k
      have HRW := Lib.hid hrow
      have HB := Lib.hid hB
      have HL := Lib.hid hl
      clear hrow hB hl
      go_wp2_with fail
      go_roundw
      case rel =>
        exact ⟨k + 1, _, by omega, by go_num, by rw [List.length_set]; exact HL.out, HRW.out.set k _, HB.out.setCell (p := ⟨w.heap.size, k, none⟩) (Nat.le_refl _) _⟩
      case measure => simp [intOf]; omega
    · obtain rfl : k = n := by omega
      have hcv := cv8 (len := k) k hl hrow.ints
      have HB := Lib.hid hB
      have HL := Lib.hid hl
      clear hB hrow hl
      go_wp2_with fail
      go_ret
      exact ⟨_, by rw [strOfNums_size, HL.out], rfl, ⟨HB.out⟩⟩

def rqA (p t : ByteArray) : Rq := ⟨12, 0, 0, 0, 0, p, t, ⟨#[]⟩⟩
def rqB (d : ByteArray) : Rq := ⟨4, 0, 0, 0, 0, ⟨#[]⟩, ⟨#[]⟩, d⟩
def rqC (p : ByteArray) (f : Int) : Rq := ⟨1, f, 0, 0, 0, p, ⟨#[]⟩, ⟨#[]⟩⟩
theorem byte0 : isByte 0 := ⟨by decide, by decide⟩
theorem byteOf (k : Int) (h0 : 0 ≤ k) (h1 : k ≤ 255) : isByte k := ⟨h0, h1⟩
theorem wide0 : (0 : Int) ≤ 0 ∧ (0 : Int) ≤ 18446744073709551615 := ⟨by decide, by decide⟩
theorem rqA_ok {p t : ByteArray} (hp : p.size ≤ 300) (ht : t.size ≤ 300) : smallRq (rqA p t) :=
  ⟨⟨byteOf 12 (by decide) (by decide), byte0, wide0, wide0, wide0, by show p.size ≤ _; omega, by show t.size ≤ _; omega, Nat.zero_le _⟩, by show p.size + t.size + 0 ≤ _; omega⟩
theorem rqB_ok {d : ByteArray} (hd : d.size ≤ 300) : smallRq (rqB d) :=
  ⟨⟨byteOf 4 (by decide) (by decide), byte0, wide0, wide0, wide0, Nat.zero_le _, Nat.zero_le _, by show d.size ≤ _; omega⟩, by show 0 + 0 + d.size ≤ _; omega⟩
theorem rqC_ok {p : ByteArray} {f : Int} (hp : p.size ≤ 300) (hf : isByte f) : smallRq (rqC p f) :=
  ⟨⟨byteOf 1 (by decide) (by decide), hf, wide0, wide0, wide0, by show p.size ≤ _; omega, Nat.zero_le _, Nat.zero_le _⟩, by show p.size + 0 + 0 ≤ _; omega⟩
theorem rqA_may {p t : ByteArray} (hp : p.size ≤ 300) (ht : t.size ≤ 300) : mayQ (rqA p t) = (decide (p.size ≤ 200) && decide (t.size ≤ 200)) := by
  rw [may_eq (rqA_ok hp ht).ok]
  have h1 : onlyQ (rqA p t) = rqA p t := rfl
  have h2 : (rqA p t).data.size = 0 := rfl
  unfold mayR
  rw [h1, h2]
  simp [rqA, known]
  try congr
theorem rqB_may {d : ByteArray} (hd : d.size ≤ 300) : mayQ (rqB d) = decide (d.size ≤ 128) := by
  rw [may_eq (rqB_ok hd).ok]
  have h1 : onlyQ (rqB d) = rqB d := rfl
  have h2 : (rqB d).path.size = 0 := rfl
  have h3 : (rqB d).dst.size = 0 := rfl
  unfold mayR
  rw [h1, h2, h3]
  simp [rqB, known]
  try congr
theorem rqC_may {p : ByteArray} {f : Int} (hp : p.size ≤ 300) (hf : isByte f) : mayQ (rqC p f) = (decide (p.size ≤ 200) && decide (f ≤ 7)) := by
  rw [may_eq (rqC_ok hp hf).ok]
  have h1 : onlyQ (rqC p f) = rqC p f := rfl
  have h2 : (rqC p f).dst.size = 0 := rfl
  have h3 : (rqC p f).data.size = 0 := rfl
  unfold mayR
  rw [h1, h2, h3]
  simp [rqC, known, Bool.and_comm]
  try congr

set_option maxRecDepth 100000 in
set_option maxHeartbeats 4000000 in
theorem walk_long (p t d f : Int) (hp : 0 ≤ p ∧ p ≤ 65535) (ht : 0 ≤ t ∧ t ≤ 65535) (hd : 0 ≤ d ∧ d ≤ 65535) (hf : isByte f) (w : World) :
    Calls Try.prog 7 #[.int .u16 p, .int .u16 t, .int .u16 d, .int .u8 f] w fun e w' => e = .returned (.bool true) ∧ Below w.heap.size w w' := by
  obtain ⟨p0, p1⟩ := hp
  obtain ⟨t0, t1⟩ := ht
  obtain ⟨d0, d1⟩ := hd
  have HF := Lib.hid hf
  obtain ⟨f0, f1⟩ := hf
  obtain ⟨P, hP⟩ : ∃ P : Nat, p % 300 = P := ⟨(p % 300).toNat, by omega⟩
  obtain ⟨T, hT⟩ : ∃ T : Nat, t % 300 = T := ⟨(t % 300).toNat, by omega⟩
  obtain ⟨D, hD⟩ : ∃ D : Nat, d % 300 = D := ⟨(d % 300).toNat, by omega⟩
  have P1 : P ≤ 300 := by omega
  have T1 : T ≤ 300 := by omega
  have D1 : D ≤ 300 := by omega
  have HP := Lib.hid hP
  have HT := Lib.hid hT
  have HD := Lib.hid hD
  clear hP hT hD
  go_enter Try.func7, Try.ntmps7
  go_upto_region 4 with fail
  rw [HP.out, HT.out, HD.out]
  clear p0 p1 t0 t1 d0 d1 HP HT HD
  go_wp2_with fail
  refine (letters_any P P1 _).mono ?_
  rintro e w1 ⟨sp, hsp, rfl, hN1⟩
  have HN := Lib.hid hN1
  clear hN1
  go_wp2_with fail
  refine (letters_any T T1 _).mono ?_
  rintro e w2 ⟨st, hst, rfl, hN2⟩
  replace HN := Lib.hid (HN.out.trans hN2)
  clear hN2
  have HAok := Lib.hid (rqA_ok (p := sp) (t := st) (by omega) (by omega))
  have HAmay := Lib.hid (rqA_may (p := sp) (t := st) (by omega) (by omega))
  go_upto_region 5 with fail
  have R0 := RqAt.new w2 (rqA sp st)
  dsimp only [rqA] at R0
  have hn := HN.out.alloc (.cells #[.int .u8 12, .int .u8 0, .int .u64 0, .int .u64 0, .int .u64 0, .string sp, .string st, .string ⟨#[]⟩] 24)
  generalize w2.alloc (.cells #[.int .u8 12, .int .u8 0, .int .u64 0, .int .u64 0, .int .u64 0, .string sp, .string st, .string ⟨#[]⟩] 24) = w3 at R0 hn ⊢
  generalize w2.heap.size = ba at R0 ⊢
  have HRA := Lib.hid (show RqAt w3 ba (rqA sp st) from R0)
  replace HN := Lib.hid hn
  clear hn R0
  go_wp2_with fail
  refine (letters_any D D1 _).mono ?_
  rintro e w4 ⟨sd, hsd, rfl, hN4⟩
  replace HN := Lib.hid (HN.out.trans hN4)
  replace HRA := Lib.hid (HRA.out.nw hN4)
  clear hN4
  have HBok := Lib.hid (rqB_ok (d := sd) (by omega))
  have HBmay := Lib.hid (rqB_may (d := sd) (by omega))
  go_upto_region 6 with fail
  have R0 := RqAt.new w4 (rqB sd)
  dsimp only [rqB] at R0
  have hn := HN.out.alloc (.cells #[.int .u8 4, .int .u8 0, .int .u64 0, .int .u64 0, .int .u64 0, .string ⟨#[]⟩, .string ⟨#[]⟩, .string sd] 24)
  have hra := HRA.out.nw (Nw.refl.alloc (.cells #[.int .u8 4, .int .u8 0, .int .u64 0, .int .u64 0, .int .u64 0, .string ⟨#[]⟩, .string ⟨#[]⟩, .string sd] 24))
  generalize w4.alloc (.cells #[.int .u8 4, .int .u8 0, .int .u64 0, .int .u64 0, .int .u64 0, .string ⟨#[]⟩, .string ⟨#[]⟩, .string sd] 24) = w5 at R0 hn hra ⊢
  generalize w4.heap.size = bb at R0 ⊢
  have HRB := Lib.hid (show RqAt w5 bb (rqB sd) from R0)
  replace HRA := Lib.hid hra
  replace HN := Lib.hid hn
  clear hn R0 hra
  go_wp2_with fail
  refine (letters_any P P1 _).mono ?_
  rintro e w6 ⟨sq, hsq, rfl, hN6⟩
  replace HN := Lib.hid (HN.out.trans hN6)
  replace HRA := Lib.hid (HRA.out.nw hN6)
  replace HRB := Lib.hid (HRB.out.nw hN6)
  clear hN6
  have HCok := Lib.hid (rqC_ok (p := sq) (f := f) (by omega) HF.out)
  have HCmay := Lib.hid (rqC_may (p := sq) (f := f) (by omega) HF.out)
  go_upto_region 7 with fail
  have R0 := RqAt.new w6 (rqC sq f)
  dsimp only [rqC] at R0
  have hn := HN.out.alloc (.cells #[.int .u8 1, .int .u8 f, .int .u64 0, .int .u64 0, .int .u64 0, .string sq, .string ⟨#[]⟩, .string ⟨#[]⟩] 24)
  have hra := HRA.out.nw (Nw.refl.alloc (.cells #[.int .u8 1, .int .u8 f, .int .u64 0, .int .u64 0, .int .u64 0, .string sq, .string ⟨#[]⟩, .string ⟨#[]⟩] 24))
  have hrb := HRB.out.nw (Nw.refl.alloc (.cells #[.int .u8 1, .int .u8 f, .int .u64 0, .int .u64 0, .int .u64 0, .string sq, .string ⟨#[]⟩, .string ⟨#[]⟩] 24))
  generalize w6.alloc (.cells #[.int .u8 1, .int .u8 f, .int .u64 0, .int .u64 0, .int .u64 0, .string sq, .string ⟨#[]⟩, .string ⟨#[]⟩] 24) = w7 at R0 hn hra hrb ⊢
  generalize w6.heap.size = bc at R0 ⊢
  have HRC := Lib.hid (show RqAt w7 bc (rqC sq f) from R0)
  replace HRA := Lib.hid hra
  replace HRB := Lib.hid hrb
  replace HN := Lib.hid hn
  clear hn R0 hra hrb
  have HMA := Lib.hid (fun W => may_any (rqA sp st) HAok.out W)
  have HMB := Lib.hid (fun W => may_any (rqB sd) HBok.out W)
  have HMC := Lib.hid (fun W => may_any (rqC sq f) HCok.out W)
  have HPB := Lib.hid (fun W => putq_any (rqB sd) HBok.out W)
  have hpl := put_len (rqB sd)
  rw [HBmay.out, hsd] at hpl
  rw [HAmay.out, hsp, hst] at HMA
  rw [HBmay.out, hsd] at HMB
  rw [HCmay.out, hsq] at HMC
  generalize hps : putQ (rqB sd) = ps at HPB hpl
  clear hps HAmay HBmay HCmay HAok HBok HCok hsp hst hsd hsq
  unfold rqV at HMA HMB HMC HPB
  dsimp only [rqA, rqB, rqC] at HMA HMB HMC HPB
  by_cases hp : P ≤ 200 <;> by_cases ht : T ≤ 200 <;> by_cases hd : D ≤ 128 <;> by_cases hf : f ≤ 7
  all_goals
    simp only [hp, ht, hd, hf, decide_true, decide_false, Bool.and_true, Bool.and_false, decide_eq_true_eq, decide_eq_false_iff_not] at HMA HMB HMC hpl
    obtain ⟨n, hn⟩ : ∃ n, ps.length = n := ⟨_, rfl⟩
    rw [hn] at hpl
    have HPN := Lib.hid hn
    clear hn
    obtain ⟨c0, c1, c2, c3, c4, c5, c6, c7, _⟩ := HRA.out
    dsimp only [rqA] at c0 c1 c2 c3 c4 c5 c6 c7
    go_wp2_with fail
    refine (HMA.out _).mono ?_
    rintro e w8 ⟨rfl, hN8⟩
    have HN8 := Lib.hid (HN.out.trans hN8)
    have HRB8 := Lib.hid (HRB.out.nw hN8)
    have HRC8 := Lib.hid (HRC.out.nw hN8)
    clear c0 c1 c2 c3 c4 c5 c6 c7 hN8
    obtain ⟨c0, c1, c2, c3, c4, c5, c6, c7, _⟩ := HRB8.out
    dsimp only [rqB] at c0 c1 c2 c3 c4 c5 c6 c7
    go_wp2_with fail
    refine (HMB.out _).mono ?_
    rintro e w9 ⟨rfl, hN9⟩
    have HN9 := Lib.hid (HN8.out.trans hN9)
    have HRB9 := Lib.hid (HRB8.out.nw hN9)
    have HRC9 := Lib.hid (HRC8.out.nw hN9)
    clear c0 c1 c2 c3 c4 c5 c6 c7 hN9
    obtain ⟨c0, c1, c2, c3, c4, c5, c6, c7, _⟩ := HRC9.out
    dsimp only [rqC] at c0 c1 c2 c3 c4 c5 c6 c7
    go_wp2_with fail
    refine (HMC.out _).mono ?_
    rintro e w10 ⟨rfl, hN10⟩
    have HN10 := Lib.hid (HN9.out.trans hN10)
    have HRB10 := Lib.hid (HRB9.out.nw hN10)
    clear c0 c1 c2 c3 c4 c5 c6 c7 hN10
    obtain ⟨c0, c1, c2, c3, c4, c5, c6, c7, _⟩ := HRB10.out
    dsimp only [rqB] at c0 c1 c2 c3 c4 c5 c6 c7
    go_wp2_with fail
    refine (HPB.out _).mono ?_
    intro e w11 h11
    obtain ⟨a11, k11, rfl, hI11, hN11, hc11⟩ := OwnR.slice h11
    rw [HPN.out]
    have HN11 := Lib.hid (HN10.out.trans hN11)
    clear c0 c1 c2 c3 c4 c5 c6 c7 hN11 h11 hI11 hc11
    go_wp2_with fail
    refine (works_any _).mono ?_
    rintro e w12 ⟨rfl, hN12⟩
    go_wp2_with fail
    go_ret
    refine ⟨?_, (HN11.out.trans hN12).b⟩
    first
      | rfl
      | (refine congrArg Ending.returned (?_ : Value.bool _ = Value.bool true)
         refine congrArg Value.bool ?_
         simp only [Bool.and_eq_true, Bool.not_eq_true', decide_eq_false_iff_not]
         omega)

end Go.Proofs.Ytphcdndohdnolaa
