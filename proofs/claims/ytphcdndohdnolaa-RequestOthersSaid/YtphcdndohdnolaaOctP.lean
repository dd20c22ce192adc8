/-
  THE DOCUMENT's TAPE (grommetref01): number, Byte, Number.
-/
import Derived.Test.YtphcdndohdnolaaOctX
namespace Go.Proofs.Ytphcdndohdnolaa
open Go.RowKit Go.Shelf
set_option linter.unusedVariables false

theorem TapeAt.tear {w : World} {t m : Nat} {zs : List Int} {torn : Bool} (h : TapeAt w t zs torn m) (hm : m ≤ t) : TapeAt (w.setCell ⟨t, 1, none⟩ (.bool true)) t zs true m := by
  obtain ⟨a, cap, s1, s2, s3⟩ := h.s
  have hu : Up t w (w.setCell ⟨t, 1, none⟩ (.bool true)) := (Up.refl t w).set 1 _
  refine ⟨⟨a, cap, ?_, s2, hu.ints hm (Nat.le_trans hm (Nat.le_of_lt h.lt)) s3⟩, World.cell?_setCell_same' _ _ _ (by rw [h.c1]; rfl), by rw [World.frozen?_setCell]; exact h.f0, by rw [World.frozen?_setCell]; exact h.f1, h.by_, h.le⟩
  exact (World.cell?_setCell_other w ⟨t, 1, none⟩ ⟨t, 0, none⟩ _ (by simp)).trans s1
theorem TapeAt.adv {w : World} {t m : Nat} {zs ys : List Int} {torn : Bool} (h : TapeAt w t zs torn m) (hm : m ≤ t) {a : Option Addr} {cap n : Nat} (hn : ys.length = n) (hc : n ≤ cap) (hI : Ints m .u8 w a ys) (hy : ∀ x ∈ ys, isByte x) (hle : ys.length ≤ zs.length) :
    TapeAt (w.setCell ⟨t, 0, none⟩ (.slice a n cap)) t ys torn m := by
  obtain ⟨a', cap', s1, s2, s3⟩ := h.s
  have hu : Up t w (w.setCell ⟨t, 0, none⟩ (.slice a n cap)) := (Up.refl t w).set 0 _
  subst hn
  exact ⟨⟨a, cap, World.cell?_setCell_same' _ _ _ (by rw [s1]; rfl), hc, hu.ints hm (Nat.le_trans hm (Nat.le_of_lt h.lt)) hI⟩, (World.cell?_setCell_other w ⟨t, 0, none⟩ ⟨t, 1, none⟩ _ (by simp)).trans h.c1, by rw [World.frozen?_setCell]; exact h.f0, by rw [World.frozen?_setCell]; exact h.f1, hy, Nat.le_trans hle h.le⟩
theorem TapeAt.drop1 {w : World} {t m : Nat} {zs : List Int} {torn : Bool} (h : TapeAt w t zs torn m) (hm : m ≤ t) {b off : Nat} {size : Nat} (hs : zs.length = size) :
    TapeAt (w.setCell ⟨t, 0, none⟩ (.slice (some ⟨b, off, none⟩) 0 0)) t (zs.drop size) torn m := by
  have : zs.drop size = [] := List.length_eq_zero_iff.1 (by rw [List.length_drop]; omega)
  exact h.adv hm (by rw [this]; rfl) (Nat.le_refl _) (.inl this) (by rw [this]; simp) (by rw [this]; simp)
theorem TapeAt.drop2 {w : World} {t m : Nat} {zs : List Int} {torn : Bool} (h : TapeAt w t zs torn m) (hm : m ≤ t) {b off len cap size : Nat} (hl : zs.length = len) (hs : size ≤ len) (hc : len ≤ cap) (hI : Ints m .u8 w (some ⟨b, off, none⟩) zs) :
    TapeAt (w.setCell ⟨t, 0, none⟩ (.slice (some ⟨b, off + size, none⟩) (len - size) (cap - size))) t (zs.drop size) torn m :=
  h.adv hm (by rw [List.length_drop, hl]) (by omega) (hI.drop size) (fun x hx => h.by_ x (List.mem_of_mem_drop hx)) (by rw [List.length_drop]; omega)
theorem TapeAt.open {w : World} {t m : Nat} {zs : List Int} {torn : Bool} (h : TapeAt w t zs torn m) (hm : m ≤ t) (hp : 0 < zs.length) : ∃ b off cap, w.cell? ⟨t, 0, none⟩ = some (.slice (some ⟨b, off, none⟩) zs.length cap) ∧ zs.length ≤ cap ∧ Ints m .u8 w (some ⟨b, off, none⟩) zs ∧ b < m := by
  obtain ⟨a, cap, s1, s2, s3⟩ := h.s
  rcases s3 with rfl | ⟨b, off, rfl, hb, hc⟩
  · simp at hp
  · exact ⟨b, off, cap, s1, s2, .inr ⟨b, off, rfl, hb, hc⟩, hb⟩

theorem byR_torn (zs : List Int) : byR zs true = 0 := rfl
set_option maxRecDepth 100000 in
set_option maxHeartbeats 2000000 in
theorem rbyte_any (t : Nat) (zs : List Int) (torn : Bool) (w : World) (m : Nat) (hm : m ≤ t) (h : TapeAt w t zs torn m) :
    Calls Try.prog 22 #[.pointer (some ⟨t, 0, none⟩)] w (StepP (.int .u8 (byR zs torn)) t (stepT zs torn (byS zs)).1 (stepT zs torn (byS zs)).2 w · · m) := by
  have HT := Lib.hid h
  have c1 := h.c1
  have f0 := h.f0
  have f1 := h.f1
  have hle := h.le
  cases torn
  · by_cases h0 : zs.length = 0
    · obtain ⟨a, cap, s1, _, _⟩ := h.s
      have : zs = [] := List.length_eq_zero_iff.1 h0
      subst this
      have HF : Hid (byR [] false = 0 ∧ stepT [] false (byS []) = ([], true)) := ⟨rfl, rfl⟩
      clear h h0
      go_enter Try.func22, Try.ntmps22
      go_wp2_with fail
      go_ret
      rw [HF.out.1, HF.out.2]
      exact ⟨rfl, HT.out.tear hm, (Up.refl t _).set 1 _⟩
    · obtain ⟨b, off, cap, s1, s2, s3, hb⟩ := h.open hm (by omega)
      obtain ⟨b', o', e, _, hc0⟩ := s3.at (j := 0) (by omega)
      simp only [Option.some.injEq, Addr.mk.injEq, and_true] at e
      obtain ⟨rfl, rfl⟩ := e
      rw [Nat.add_zero] at hc0
      have HF : Hid (byR zs false = zs[0]'(by omega) ∧ stepT zs false (byS zs) = (zs.drop 1, false)) := by
        refine ⟨?_, ?_⟩
        · simp [byR, byV, show 0 < zs.length by omega]
        · have : byS zs = 1 := by unfold byS; rw [if_neg h0]
          rw [this]; rfl
      obtain ⟨x, hx⟩ : ∃ x, zs[0]'(by omega) = x := ⟨_, rfl⟩
      rw [hx] at hc0 HF
      have HS := Lib.hid s3
      obtain ⟨len, hlen⟩ : ∃ len, zs.length = len := ⟨_, rfl⟩
      rw [hlen] at s1 s2 hle
      have hd : ((len : Int) == 0) = false := by rw [beq_eq_false_iff_ne]; omega
      have hp : 0 < len := by omega
      have HL := Lib.hid hlen
      clear h s3 hx h0 hlen
      by_cases hcap : cap = 1
      · subst hcap
        have hl1 : len = 1 := by omega
        subst hl1
        go_enter Try.func22, Try.ntmps22
        go_wp2_with fail
        go_ret
        rw [HF.out.1, HF.out.2]
        exact ⟨rfl, HT.out.drop1 hm HL.out, (Up.refl t _).set 0 _⟩
      · go_enter Try.func22, Try.ntmps22
        go_wp2_with fail
        go_ret
        rw [HF.out.1, HF.out.2]
        exact ⟨rfl, HT.out.drop2 hm HL.out (by omega) s2 HS.out, (Up.refl t _).set 0 _⟩
  · clear h
    go_enter Try.func22, Try.ntmps22
    go_wp2_with fail
    go_ret
    exact ⟨rfl, HT.out.tear hm, (Up.refl t _).set 1 _⟩

theorem numV_no {zs : List Int} (h : ¬ numP zs) : (numV zs).1 = 0 ∧ numS zs = 0 := by unfold numV numS; rw [if_neg h, if_neg h]; exact ⟨rfl, rfl⟩
theorem numV_yes {zs : List Int} (h : numP zs) : (numV zs).1 = valL (ownL zs) ∧ numS zs = 1 + kOf zs := by unfold numV numS; rw [if_pos h, if_pos h]; exact ⟨rfl, rfl⟩

theorem kOf_spec {zs : List Int} (hz : ∀ x ∈ zs, isByte x) (hp : 0 < zs.length) : ∃ k : Nat, zs[0]?.getD 0 = (k : Int) ∧ kOf zs = k := by
  cases zs with
  | nil => simp at hp
  | cons c cs =>
    obtain ⟨c1, c2⟩ := hz c (List.mem_cons_self)
    exact ⟨c.toNat, by simp; omega, rfl⟩
set_option maxRecDepth 100000 in
set_option maxHeartbeats 4000000 in
theorem rnum_any (a : Option Addr) (len cap : Nat) (zs : List Int) (hl : zs.length = len) (hreach : len ≤ 140737488355000) (hz : ∀ x ∈ zs, isByte x) (n₀ : Nat) (w : World) (hI : Ints n₀ .u8 w a zs) :
    Calls Try.prog 34 #[.slice a len cap] w fun e W' => e = .returned (.tuple #[.int .u64 (numV zs).1, .int .i64 (numS zs : Int)]) ∧ w = W' := by
  by_cases h0 : len = 0
  · have HN := numV_no (zs := zs) (fun h => by have := h.1; omega)
    rw [HN.1, HN.2]
    subst h0
    clear HN
    go_enter Try.func34, Try.ntmps34
    go_wp2_with fail
    go_ret2
    exact ⟨rfl, rfl⟩
  rcases hI with rfl | ⟨b, off, rfl, hb, hcs⟩
  · simp at hl; omega
  obtain ⟨k, hk, hkz⟩ := kOf_spec hz (by omega)
  have g0 := hcs 0 (by omega)
  rw [hk, Nat.add_zero] at g0
  have hd0 : ((len : Int) == 0) = false := by rw [beq_eq_false_iff_ne]; omega
  have hlp : 0 < len := by omega
  by_cases hk8 : 8 < k
  · have HN := numV_no (zs := zs) (fun h => by have := h.2.1; omega)
    rw [HN.1, HN.2]
    have hd : decide (8 < (k : Int)) = true := by simp; omega
    clear HN hcs hk hkz hl hz
    go_enter Try.func34, Try.ntmps34
    go_wp2_with fail
    go_ret2
    exact ⟨rfl, rfl⟩
  have hd1 : decide (8 < (k : Int)) = false := by simp; omega
  by_cases hkl : len < 1 + k
  · have HN := numV_no (zs := zs) (fun h => by have := h.2.2.1; omega)
    rw [HN.1, HN.2]
    clear HN hcs hk hkz hl hz
    go_enter Try.func34, Try.ntmps34
    go_wp2_with fail
    go_ret2
    exact ⟨rfl, rfl⟩
  have hkl2 : 1 + k ≤ len := by omega
  obtain ⟨own, hown⟩ : ∃ own, ownL zs = own := ⟨_, rfl⟩
  have HOL : Hid (own.length = k) := by show _ = _; rw [← hown]; unfold ownL; rw [hkz]; simp; omega
  have HOB : Hid (∀ x ∈ own, isByte x) := fun x hx => by rw [← hown] at hx; exact hz x (List.mem_of_mem_drop (List.mem_of_mem_take hx))
  have HOG : Hid (∀ j, j < k → zs[j + 1]?.getD 0 = own[j]?.getD 0) := fun j hj => by rw [← hown]; unfold ownL; rw [hkz]; simp [hj]
  have HY := Lib.hid (fun h : numP zs => numV_yes h)
  have HNO := Lib.hid (fun h : ¬ numP zs => numV_no h)
  have HP : Hid (numP zs ↔ ¬ (0 < k ∧ zs[k]?.getD 0 = 0)) := by
    show _ ↔ _
    unfold numP
    rw [hkz]
    exact ⟨fun h => h.2.2.2, fun h => ⟨by omega, by omega, by omega, h⟩⟩
  rw [hown, hkz] at HY
  obtain ⟨V, hV⟩ : ∃ V, (numV zs).1 = V := ⟨_, rfl⟩
  obtain ⟨N, hN⟩ : ∃ N, numS zs = N := ⟨_, rfl⟩
  rw [hV, hN] at HY HNO ⊢
  have HC := Lib.hid hcs
  have HL := Lib.hid hl
  clear hown hkz hl hz hcs hk hV hN
  go_enter Try.func34, Try.ntmps34
  go_wp2_with fail
  go_loop [5, 6] (fun v i => ∃ j : Nat, j ≤ k ∧ i = .int .i64 j ∧ v = .int .u64 (valL (own.drop j))) (fun _ i => (intOf i).toNat)
  case atStart => exact ⟨k, Nat.le_refl _, rfl, by rw [List.drop_of_length_le (by rw [HOL.out]; exact Nat.le_refl _)]; rfl⟩
  case round =>
  obtain ⟨j, hj, rfl, rfl⟩ := hrel
  cases j with
  | succ i =>
    have hc := HC.out (i + 1) (by rw [HL.out]; omega)
    rw [HOG.out i (by omega)] at hc
    have hdr : own.drop i = own[i]'(by rw [HOL.out]; omega) :: own.drop (i + 1) := List.drop_eq_getElem_cons _
    have hgi : own[i]?.getD 0 = own[i]'(by rw [HOL.out]; omega) := by rw [List.getElem?_eq_getElem (by rw [HOL.out]; omega)]; rfl
    have hbi := HOB.out _ (List.getElem_mem (l := own) (n := i) (by rw [HOL.out]; omega))
    rw [← hgi] at hdr hbi
    obtain ⟨v0, v1⟩ := valL_bd (own.drop (i + 1)) (fun x hx => HOB.out x (List.mem_of_mem_drop hx))
    have hlen : (own.drop (i + 1)).length = k - (i + 1) := by rw [List.length_drop, HOL.out]
    rw [hlen] at v1
    have hp : 256 ^ (k - (i + 1)) ≤ 256 ^ 7 := Nat.pow_le_pow_right (by decide) (by omega)
    have h7 : (256 : Nat) ^ 7 = 72057594037927936 := by decide
    have hvs : valL (own.drop i) = own[i]?.getD 0 + 256 * valL (own.drop (i + 1)) := by rw [hdr]; rfl
    obtain ⟨x, hx⟩ : ∃ x, own[i]?.getD 0 = x := ⟨_, rfl⟩
    obtain ⟨u, hu⟩ : ∃ u, valL (own.drop (i + 1)) = u := ⟨_, rfl⟩
    rw [hx] at hc hbi hvs
    rw [hu] at v0 v1 hvs ⊢
    obtain ⟨x0, x1⟩ := hbi
    have b1 : u * 256 ≤ 18446744073709551615 := by omega
    have b2 : u * 256 + x ≤ 18446744073709551615 := by omega
    have HVS := Lib.hid hvs
    clear hvs hx hu hdr hgi hlen hp h7 v1
    go_wp2_with fail
    go_round
    case rel => exact ⟨i, by omega, by go_num, by rw [HVS.out, Int.mul_comm, Int.add_comm]⟩
    case measure => simp [intOf]
  | zero =>
  by_cases hk0 : k = 0
  · have HQ := HY.out (HP.out.2 (fun h => by omega))
    have HQ1 := Lib.hid HQ.1
    have HQ2 := Lib.hid HQ.2
    subst hk0
    have HQ0 : Hid (own = []) := List.length_eq_zero_iff.1 HOL.out
    have hd3 : decide (0 < ((0 : Nat) : Int)) = false := by decide
    clear HQ
    go_wp2_with fail
    go_ret2
    refine ⟨?_, rfl⟩
    rw [HQ1.out, HQ2.out, HQ0.out]
    rfl
  · have hc := HC.out k (by rw [HL.out]; omega)
    have hd3 : decide (0 < (k : Int)) = true := by simp; omega
    obtain ⟨x, hx⟩ : ∃ x, zs[k]?.getD 0 = x := ⟨_, rfl⟩
    rw [hx] at hc
    by_cases hx0 : x = 0
    · have HQ := HNO.out (fun h => (HP.out.1 h) ⟨by omega, by rw [hx]; exact hx0⟩)
      have HQ1 := Lib.hid HQ.1
      have HQ2 := Lib.hid HQ.2
      subst hx0
      clear HQ hx
      go_wp2_with fail
      go_ret2
      rw [HQ1.out, HQ2.out]
      exact ⟨rfl, rfl⟩
    · have HQ := HY.out (HP.out.2 (fun h => hx0 (by rw [← hx]; exact h.2)))
      have HQ1 := Lib.hid HQ.1
      have HQ2 := Lib.hid HQ.2
      have hxb : (x == 0) = false := by rw [beq_eq_false_iff_ne]; exact hx0
      have hk1 : 0 < k := by omega
      clear HQ hx hx0 hk0
      go_wp2_with fail
      go_ret2
      refine ⟨?_, rfl⟩
      rw [HQ1.out, HQ2.out]
      rfl

theorem TapeAt.slot {w : World} {t : Nat} {zs : List Int} {torn : Bool} (h : TapeAt w t zs torn) : ∃ a cap, w.cell? ⟨t, 0, none⟩ = some (.slice a zs.length cap) ∧ zs.length ≤ cap ∧ Ints t .u8 w a zs := h.s

/-- The end of a reading call of the document's tape, by how it goes. -/
theorem numR_torn (zs : List Int) : numR zs true = 0 := rfl
theorem stepT_torn (zs : List Int) (n : Nat) : stepT zs true n = (zs, true) := rfl
theorem stepT_zero (zs : List Int) : stepT zs false 0 = (zs, true) := rfl
theorem stepT_go (zs : List Int) (n : Nat) (h : n ≠ 0) : stepT zs false n = (zs.drop n, false) := by unfold stepT; rw [if_neg (by simp), if_neg h]

set_option maxRecDepth 100000 in
set_option maxHeartbeats 2000000 in
theorem rnumber_any (t : Nat) (zs : List Int) (torn : Bool) (w : World) (m : Nat) (hm : m ≤ t) (h : TapeAt w t zs torn m) :
    Calls Try.prog 24 #[.pointer (some ⟨t, 0, none⟩)] w (StepP (.int .u64 (numR zs torn)) t (stepT zs torn (numS zs)).1 (stepT zs torn (numS zs)).2 w · · m) := by
  have HT := Lib.hid h
  have c1 := h.c1
  have f0 := h.f0
  have f1 := h.f1
  obtain ⟨a, cap, s1, s2, s3⟩ := h.s
  have HN := Lib.hid (rnum_any a zs.length cap zs rfl h.le h.by_ _ w s3)
  have hsl := numS_le zs
  have hs9 := numS_nine zs
  have HZ := Lib.hid (numV_zero zs)
  obtain ⟨len, hlen⟩ : ∃ len, zs.length = len := ⟨_, rfl⟩
  have HL := Lib.hid hlen
  have hle := h.le
  rw [hlen] at s1 s2 HN hsl hle
  have HI := Lib.hid s3
  have HR : Hid (torn = false → numR zs torn = (numV zs).1) := fun h => by rw [h]; rfl
  obtain ⟨V, hV⟩ : ∃ V, (numV zs).1 = V := ⟨_, rfl⟩
  obtain ⟨N, hN⟩ : ∃ N, numS zs = N := ⟨_, rfl⟩
  rw [hV] at HN HZ HR
  rw [hN] at HN HZ hsl hs9 ⊢
  clear h s3 hlen hV hN
  cases torn
  · rw [HR.out rfl]
    clear HR
    by_cases h0 : N = 0
    · subst h0
      have HZ0 := Lib.hid (HZ.out rfl)
      go_enter Try.func24, Try.ntmps24
      go_wp2_with fail
      refine HN.out.mono ?_
      rintro e w' ⟨rfl, rfl⟩
      go_wp2_with fail
      go_ret
      rw [HZ0.out, stepT_zero]
      exact ⟨rfl, HT.out.tear hm, (Up.refl t _).set 1 _⟩
    · have hd : ((N : Int) == 0) = false := by rw [beq_eq_false_iff_ne]; omega
      have hp : 0 < N := by omega
      have HG := Lib.hid (stepT_go zs N h0)
      rcases HI.out with hz | ⟨b, off, rfl, hb, hc⟩
      · rw [← HL.out, hz] at hsl; simp at hsl; omega
      clear h0
      by_cases hcap : cap = N
      · have hl1 : len = N := by omega
        subst hcap
        subst hl1
        clear hc
        go_enter Try.func24, Try.ntmps24
        go_wp2_with fail
        refine HN.out.mono ?_
        rintro e w' ⟨rfl, rfl⟩
        go_wp2_with fail
        go_ret
        rw [HG.out]
        exact ⟨rfl, HT.out.drop1 hm HL.out, (Up.refl t _).set 0 _⟩
      · clear hc
        go_enter Try.func24, Try.ntmps24
        go_wp2_with fail
        refine HN.out.mono ?_
        rintro e w' ⟨rfl, rfl⟩
        go_wp2_with fail
        go_ret
        rw [HG.out]
        exact ⟨rfl, HT.out.drop2 hm HL.out (by omega) s2 HI.out, (Up.refl t _).set 0 _⟩
  · go_enter Try.func24, Try.ntmps24
    go_wp2_with fail
    refine HN.out.mono ?_
    rintro e w' ⟨rfl, rfl⟩
    go_wp2_with fail
    go_ret
    exact ⟨rfl, HT.out.tear hm, (Up.refl t _).set 1 _⟩

set_option maxRecDepth 100000 in
set_option maxHeartbeats 4000000 in
theorem rtext_any (t : Nat) (zs : List Int) (torn : Bool) (most : Int) (hm63 : most ≤ 9223372036854775807) (w : World) (mb : Nat) (hmb : mb ≤ t) (h : TapeAt w t zs torn mb) :
    Calls Try.prog 23 #[.pointer (some ⟨t, 0, none⟩), .int .i64 most] w (StepP (.string (txtR zs torn most)) t (stepT zs torn (txtS zs most)).1 (stepT zs torn (txtS zs most)).2 w · · mb) := by
  have HT := Lib.hid h
  have c1 := h.c1
  have f0 := h.f0
  have f1 := h.f1
  obtain ⟨a, cap, s1, s2, s3⟩ := h.s
  have HN := Lib.hid (rnum_any a zs.length cap zs rfl h.le h.by_ _ w s3)
  have hsl := numS_le zs
  have hs9 := numS_nine zs
  obtain ⟨hv0, hv1⟩ := numV_range zs h.by_
  have hle := h.le
  have HI := Lib.hid s3
  have HNO : Hid (¬ txtP zs most → txtV zs most = ByteArray.empty ∧ txtS zs most = 0) := txt_no
  have HYES : Hid (txtP zs most → txtV zs most = strOfNums (txtL zs) ∧ txtS zs most = numS zs + (numV zs).1.toNat) := txt_yes
  have HPP : Hid (txtP zs most ↔ numS zs ≠ 0 ∧ 0 ≤ most ∧ (numV zs).1 ≤ most ∧ (numV zs).1 ≤ (zs.length : Int) - numS zs) := Iff.rfl
  have HTL : Hid (txtL zs = (zs.drop (numS zs)).take (numV zs).1.toNat) := rfl
  have HR : Hid (torn = false → txtR zs torn most = txtV zs most) := fun h => by rw [h]; rfl
  obtain ⟨len, hlen⟩ : ∃ len, zs.length = len := ⟨_, rfl⟩
  have HL := Lib.hid hlen
  rw [hlen] at s1 s2 HN hsl hle HPP
  obtain ⟨V, hV⟩ : ∃ V : Nat, (numV zs).1 = (V : Int) := ⟨(numV zs).1.toNat, by omega⟩
  obtain ⟨N, hN⟩ : ∃ N, numS zs = N := ⟨_, rfl⟩
  rw [hV] at HN HPP hv0 hv1
  rw [hV, Int.toNat_natCast] at HYES HTL
  rw [hN] at HN hsl hs9 HYES HPP HTL
  have HU := Lib.hid hv1
  clear h s3 hlen hV hN hv1
  cases torn
  · rw [HR.out rfl]
    clear HR
    by_cases hp : txtP zs most
    · obtain ⟨p1, p2, p3, p4⟩ := HPP.out.1 hp
      obtain ⟨y1, y2⟩ := HYES.out hp
      rw [y1, y2]
      have HG := Lib.hid (stepT_go zs (N + V) (by omega))
      obtain ⟨m, rfl⟩ := Int.eq_ofNat_of_zero_le p2
      have hd : ((N : Int) == 0) = false := by rw [beq_eq_false_iff_ne]; omega
      have hnp : 0 < N := by omega
      have hVm : V ≤ m := by omega
      have hVl : V ≤ len - N := by omega
      have hNV : N + V ≤ len := by omega
      rcases HI.out with hz | ⟨b, off, rfl, hb, hc⟩
      · rw [← HL.out, hz] at hsl; simp at hsl; omega
      have hIc := (HI.out.drop N).take V
      have hlc : ((zs.drop N).take V).length = V := by rw [List.length_take, List.length_drop, HL.out]; omega
      have HCC : cap = N → Hid (V = 0) := fun h => show V = 0 by omega
      rw [← HTL.out] at hIc hlc
      clear hp y1 y2 p1 p2 p3 p4 hc
      have HL2 := Lib.hid hlc
      by_cases hcN : cap = N
      · have hV0 := HCC hcN
        have hV0 := hV0.out
        have hl1 : len = N := by omega
        subst hcN
        subst hV0
        subst hl1
        have HTE : Hid (txtL zs = []) := List.length_eq_zero_iff.1 hlc
        have hcv := cv8 (w := w) (ax := some ⟨b, off, none⟩) (len := 0) (n₀ := 0) 0 (zs := []) rfl (.inl rfl)
        have HG : Hid (stepT zs false (len + 0) = (zs.drop len, false)) := HG
        clear hIc hlc HCC
        go_enter Try.func23, Try.ntmps23
        go_wp2_with fail
        refine HN.out.mono ?_
        rintro e w' ⟨rfl, rfl⟩
        go_wp2_with fail
        go_ret
        rw [HG.out, HTE.out]
        exact ⟨rfl, HT.out.drop1 hmb HL.out, (Up.refl t _).set 0 _⟩
      · have HCV : Hid (∀ c, (convert 25 9 (.slice (some ⟨b, off + N, none⟩) V c)).run Try.prog w = .ok (.string (strOfNums (txtL zs))) w) := fun c => cv8 c hlc hIc
        clear hIc hlc HCC
        by_cases hcNV : cap = N + V
        · have hl1 : len = N + V := by omega
          subst hcNV
          subst hl1
          have hcv := HCV.out V
          go_enter Try.func23, Try.ntmps23
          go_wp2_with fail
          refine HN.out.mono ?_
          rintro e w' ⟨rfl, rfl⟩
          go_wp2_with fail
          go_ret
          rw [HG.out]
          exact ⟨rfl, HT.out.drop1 hmb HL.out, (Up.refl t _).set 0 _⟩
        · have hcv := HCV.out (cap - N)
          go_enter Try.func23, Try.ntmps23
          go_wp2_with fail
          refine HN.out.mono ?_
          rintro e w' ⟨rfl, rfl⟩
          go_wp2_with fail
          go_ret
          rw [HG.out]
          exact ⟨rfl, HT.out.drop2 hmb HL.out (by omega) s2 HI.out, (Up.refl t _).set 0 _⟩
    · obtain ⟨y1, y2⟩ := HNO.out hp
      rw [y1, y2, stepT_zero]
      have hnp := HPP.out
      by_cases h0 : N = 0
      · subst h0
        clear hp y1 y2 hnp
        go_enter Try.func23, Try.ntmps23
        go_wp2_with fail
        refine HN.out.mono ?_
        rintro e w' ⟨rfl, rfl⟩
        go_wp2_with fail
        go_ret
        exact ⟨rfl, HT.out.tear hmb, (Up.refl t _).set 1 _⟩
      have hd : ((N : Int) == 0) = false := by rw [beq_eq_false_iff_ne]; omega
      by_cases hm : most < 0
      · clear hp y1 y2 hnp h0
        go_enter Try.func23, Try.ntmps23
        go_wp2_with fail
        refine HN.out.mono ?_
        rintro e w' ⟨rfl, rfl⟩
        go_wp2_with fail
        go_ret
        exact ⟨rfl, HT.out.tear hmb, (Up.refl t _).set 1 _⟩
      obtain ⟨m, rfl⟩ := Int.eq_ofNat_of_zero_le (show 0 ≤ most by omega)
      by_cases hVm : m < V
      · clear hp y1 y2 hnp h0 hm
        go_enter Try.func23, Try.ntmps23
        go_wp2_with fail
        refine HN.out.mono ?_
        rintro e w' ⟨rfl, rfl⟩
        go_wp2_with fail
        all_goals first | (go_ret; exact ⟨rfl, HT.out.tear hmb, (Up.refl t _).set 1 _⟩) | (exfalso; omega)
      · have hlt : len - N < V := by
          rcases Nat.lt_or_ge (len - N) V with h | h
          · exact h
          · exact absurd (hnp.2 ⟨h0, by omega, by omega, by omega⟩) hp
        clear hp y1 y2 hnp h0 hm
        go_enter Try.func23, Try.ntmps23
        go_wp2_with fail
        refine HN.out.mono ?_
        rintro e w' ⟨rfl, rfl⟩
        go_wp2_with fail
        all_goals first | (go_ret; exact ⟨rfl, HT.out.tear hmb, (Up.refl t _).set 1 _⟩) | (exfalso; omega)
  · go_enter Try.func23, Try.ntmps23
    go_wp2_with fail
    refine HN.out.mono ?_
    rintro e w' ⟨rfl, rfl⟩
    go_wp2_with fail
    go_ret
    exact ⟨rfl, HT.out.tear hmb, (Up.refl t _).set 1 _⟩

end Go.Proofs.Ytphcdndohdnolaa
