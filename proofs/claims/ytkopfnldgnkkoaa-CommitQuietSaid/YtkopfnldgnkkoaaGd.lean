/-
  THE LAW'S DEVICE: a new one of words that are sure, and the document's.
-/
import Derived.Test.YtkopfnldgnkkoaaGm
import Derived.Test.YtkopfnldgnkkoaaRvB
namespace Go.Proofs.Ytkopfnldgnkkoaa
open Go.RowKit Go.Shelf
set_option linter.unusedVariables false

/-- A word that is sure. -/
def doneW (v : Int) : Wd := evictW (storeW zeroW v)
def filS (zs : List Int) (j : Nat) : Nat → Wd := fun k => if k < j then storeW zeroW (zs[k]?.getD 0) else zeroW
def filE (zs : List Int) (i : Nat) : Nat → Wd := fun k => if k / 8 < i then doneW (zs[k]?.getD 0) else storeW zeroW (zs[k]?.getD 0)
def filD (zs : List Int) : Nat → Wd := fun k => doneW (zs[k]?.getD 0)
theorem filS_zero (zs : List Int) : filS zs 0 = fun _ => zeroW := by funext k; exact if_neg (Nat.not_lt_zero _)
theorem filS_at (zs : List Int) (j : Nat) : filS zs j j = zeroW := if_neg (Nat.lt_irrefl _)
theorem filS_succ (zs : List Int) (j : Nat) : upd (filS zs j) j (storeW (filS zs j j) (zs[j]?.getD 0)) = filS zs (j + 1) := by
  rw [filS_at]
  funext k
  unfold upd filS
  by_cases e : k = j
  · subst e; rw [if_pos rfl, if_pos (Nat.lt_succ_self _)]
  · rw [if_neg e]
    by_cases h : k < j
    · rw [if_pos h, if_pos (by omega)]
    · rw [if_neg h, if_neg (by omega)]
theorem filE_zero (zs : List Int) (N k : Nat) (hk : k < N) : filS zs N k = filE zs 0 k := by
  unfold filS filE
  rw [if_pos hk, if_neg (Nat.not_lt_zero _)]
theorem filE_succ (zs : List Int) (i : Nat) : evictU i (filE zs i) = filE zs (i + 1) := by
  funext k
  unfold evictU lineU
  by_cases e : k / 8 = i
  · have h1 : filE zs i k = storeW zeroW (zs[k]?.getD 0) := if_neg (by omega)
    rw [h1, if_pos ⟨e, rfl⟩]
    exact (if_pos (show k / 8 < i + 1 by omega)).symm
  · rw [if_neg (fun h => e h.1)]
    unfold filE
    by_cases h : k / 8 < i
    · rw [if_pos h, if_pos (by omega)]
    · rw [if_neg h, if_neg (by omega)]
theorem filE_all (zs : List Int) (N k : Nat) (hk : k < N) (h8 : N % 8 = 0) : filE zs (N / 8) k = filD zs k := if_pos (by omega)

/-- What the device tells. -/
def DevR (zs : List Int) (N : Nat) (w : World) (e : Ending) (w' : World) : Prop :=
  ∃ d b r c, e = .returned (.tuple #[.pointer (some ⟨d, 0, none⟩), .pointer (some ⟨r, 0, none⟩), .bool true]) ∧ DevAt w' d b N (filD zs) ∧ RevAt w' r c N (filD zs) ∧ Nw w w' ∧ w.heap.size ≤ b ∧ w.heap.size ≤ d ∧ w.heap.size ≤ c ∧ w.heap.size ≤ r
set_option maxRecDepth 100000 in
set_option maxHeartbeats 4000000 in
theorem device_any (a : Option Addr) (N c n₀ : Nat) (zs : List Int) (hx : zs.length = N) (h8 : 8 ≤ N) (hle : N ≤ 65536) (hb8 : N % 8 = 0) (w : World) (hn₀ : n₀ ≤ w.heap.size) (hI : Ints n₀ .u64 w a zs) :
    Calls Try.prog 8 #[.slice a N c] w (DevR zs N w) := by
  have HX := Lib.hid hx
  have HI := Lib.hid (hI.mono hn₀)
  clear hI hx
  go_enter Try.func8, Try.ntmps8
  go_wp2_with fail
  (with_reducible refine (newd_yes N h8 hle hb8 _).mono ?_)
  rintro e w1 ⟨d, b, rfl, hD, hn1, hb, hd⟩
  have HD := Lib.hid hD
  have HN := Lib.hid hn1
  have HB := Lib.hid hb
  have HDD := Lib.hid hd
  clear hD hn1 hb hd
  go_wp2_with fail
  (with_reducible refine (rnewd_yes N h8 hle hb8 _).mono ?_)
  rintro e w2 ⟨r, q, rfl, hR, hn2, hq, hr⟩
  have HR2 := Lib.hid hR
  have HD2 := Lib.hid (HD.out.nw hn2)
  have HN2 := Lib.hid (HN.out.trans hn2)
  have HQ := Lib.hid (Nat.le_trans HN.out.b.size hq)
  have HRR := Lib.hid (Nat.le_trans HN.out.b.size hr)
  have HNE := Lib.hid (show r ≠ b ∧ q ≠ b ∧ d ≠ q ∧ b ≠ q from ⟨hR.k.tag.ne HD2.out.a.ty (by decide), hR.a.ty.ne HD2.out.a.ty (by decide), HD2.out.k.tag.ne hR.a.ty (by decide), HD2.out.a.ty.ne hR.a.ty (by decide)⟩)
  clear hR hn2 hq hr HD HN
  go_wp2_with fail
  go_loopw [9] (fun v wq => ∃ j : Nat, j ≤ N ∧ v = .int .i64 j ∧ DevAt wq d b N (filS zs j) ∧ RevAt wq r q N (filS zs j) ∧ Nw w wq) (fun v _ => N - (intOf v).toNat)
  case atStart => exact ⟨0, Nat.zero_le _, rfl, by rw [filS_zero]; exact HD2.out, by rw [filS_zero]; exact HR2.out, HN2.out⟩
  case round =>
    obtain ⟨j, hj, rfl, hD, hR, hn⟩ := hrel
    have HD := Lib.hid hD
    have HR := Lib.hid hR
    have HN := Lib.hid hn
    clear hD hR hn HD2 HR2 HN2
    by_cases hjN : j < N
    · obtain ⟨ab, ao, rfl, hab, p1⟩ := (HI.out.below HN.out.b).at (j := j) (by rw [HX.out]; exact hjN)
      have HV := Lib.hid (show zs[j]?.getD 0 = zs[j]'(by rw [HX.out]; exact hjN) by rw [List.getElem?_eq_getElem (by rw [HX.out]; exact hjN)]; rfl)
      have HS := Lib.hid (filS_succ zs j)
      rw [HV.out] at HS
      have hbb := HB.out
      have hqq := HQ.out
      have hne1 : ab ≠ b := by omega
      have HP := Lib.hid p1
      generalize zs[j]'(by rw [HX.out]; exact hjN) = v at *
      have HC1 := Lib.hid (store_any d b N (filS zs j) j hjN v wr HD.out)
      rw [HS.out] at HC1
      have hj0 : (j : Int) < (N : Int) := by omega
      have hjn : (0 : Int) ≤ (j : Int) := by omega
      clear HV
      go_wp2_with fail
      (with_reducible refine HC1.out.mono ?_)
      rintro e w5 ⟨rfl, hD5, hu5⟩
      have HD5 := Lib.hid hD5
      have HR5 := Lib.hid (HR.out.up hu5 HNE.out.1 HNE.out.2.1)
      have HN5 := Lib.hid (show Nw w w5 from ⟨Up.below HN.out.b hu5 HN.out.b.size hbb⟩)
      have p1' := hu5.cell HP.out hne1
      have HC2 := Lib.hid (rstore_any r q N (filS zs j) j hjN v w5 HR5.out)
      rw [HS.out] at HC2
      clear hD5 hu5 p1 HC1 HD HR HN HP
      go_wp2_with fail
      (with_reducible refine HC2.out.mono ?_)
      rintro e w6 ⟨rfl, hR6, hu6⟩
      have HR6 := Lib.hid hR6
      have HD6 := Lib.hid (HD5.out.up hu6 HNE.out.2.2.1 HNE.out.2.2.2)
      have HN6 := Lib.hid (show Nw w w6 from ⟨Up.below HN5.out.b hu6 HN5.out.b.size hqq⟩)
      clear hR6 hu6 HC2 HD5 HR5 HN5 p1'
      go_wp2_with fail
      go_roundw
      case rel => exact ⟨j + 1, by omega, by go_num, HD6.out, HR6.out, HN6.out⟩
      case measure => simp [intOf]; omega
    · obtain rfl : j = N := by omega
      have HDe := Lib.hid (HD.out.congr (g := filE zs 0) (fun k hk => filE_zero zs j k hk))
      have HRe := Lib.hid (HR.out.congr (g := filE zs 0) (fun k hk => filE_zero zs j k hk))
      obtain ⟨M, hM⟩ : ∃ M, j / 8 = M := ⟨_, rfl⟩
      have hq8 : (j : Int).tdiv 8 = (M : Int) := by rw [Int.tdiv_eq_ediv_of_nonneg (by omega)]; omega
      have HQ8 := Lib.hid hq8
      have HM8 := Lib.hid hM
      clear hq8
      go_wp2_with fail
      go_loopw [10] (fun v wq => ∃ i : Nat, i ≤ M ∧ v = .int .i64 i ∧ DevAt wq d b j (filE zs i) ∧ RevAt wq r q j (filE zs i) ∧ Nw w wq) (fun v _ => M - (intOf v).toNat)
      case atStart => exact ⟨0, Nat.zero_le _, rfl, HDe.out, HRe.out, HN.out⟩
      case round =>
        clear HD HR HN HDe HRe
        obtain ⟨i, hi, rfl, hD, hR, hn⟩ := hrel
        have HD := Lib.hid hD
        have HR := Lib.hid hR
        have HN := Lib.hid hn
        clear hD hR hn
        have hq8 := HQ8.out
        by_cases hiM : i < M
        · have hbb := HB.out
          have hqq := HQ.out
          have HC1 := Lib.hid (evict_any d b j (filE zs i) i (by omega) wr HD.out)
          rw [filE_succ] at HC1
          have hi0 : (i : Int) < (M : Int) := by omega
          have hin : (0 : Int) ≤ (i : Int) := by omega
          go_wp2_with fail
          (with_reducible refine HC1.out.mono ?_)
          rintro e w5 ⟨rfl, hD5, hu5⟩
          have HD5 := Lib.hid hD5
          have HR5 := Lib.hid (HR.out.up hu5 HNE.out.1 HNE.out.2.1)
          have HN5 := Lib.hid (show Nw w w5 from ⟨Up.below HN.out.b hu5 HN.out.b.size hbb⟩)
          have HC2 := Lib.hid (revict_any r q j (filE zs i) i (by omega) w5 HR5.out)
          rw [filE_succ] at HC2
          clear hD5 hu5 HC1 HD HR HN
          go_wp2_with fail
          (with_reducible refine HC2.out.mono ?_)
          rintro e w6 ⟨rfl, hR6, hu6⟩
          have HR6 := Lib.hid hR6
          have HD6 := Lib.hid (HD5.out.up hu6 HNE.out.2.2.1 HNE.out.2.2.2)
          have HN6 := Lib.hid (show Nw w w6 from ⟨Up.below HN5.out.b hu6 HN5.out.b.size hqq⟩)
          clear hR6 hu6 HC2 HD5 HR5 HN5
          go_wp2_with fail
          go_roundw
          case rel => exact ⟨i + 1, by omega, by go_num, HD6.out, HR6.out, HN6.out⟩
          case measure => simp [intOf]; omega
        · obtain rfl : i = M := by omega
          go_wp2_with fail
          go_ret3
          have hfin : ∀ k, k < j → filE zs i k = filD zs k := fun k hk => by rw [← HM8.out]; exact filE_all zs j k hk hb8
          exact ⟨d, b, r, q, rfl, HD.out.congr hfin, HR.out.congr hfin, HN.out, HB.out, HDD.out, HQ.out, HRR.out⟩
end Go.Proofs.Ytkopfnldgnkkoaa
