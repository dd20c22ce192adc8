/-
  THE WALKS OF record.writable, split, Mark and grommetref08.Mark.
-/
import Derived.Test.YtkopfnldgnkkoaaGreatRcM
import Derived.Test.YtkopfnldgnkkoaaGreatFr
import Derived.Test.YtkopfnldgnkkoaaGreatLyE
namespace Go.Proofs.YtkopfnldgnkkoaaGreat
open Go.RowKit Go.Shelf
set_option linter.unusedVariables false

set_option maxHeartbeats 400000 in
theorem writable_any (k : Int) (w : World) :
    Calls Tryz.prog 92 #[.int .u8 k] w fun e w' => e = .returned (.bool (kindOk k)) ∧ w = w' := by
  by_cases e0 : k = 0
  · subst e0
    go_enter Tryz.func92, Tryz.ntmps92
    go_wp2_with fail
    go_ret
    exact ⟨rfl, rfl⟩
  by_cases e1 : k = 1
  · subst e1
    go_enter Tryz.func92, Tryz.ntmps92
    go_wp2_with fail
    go_ret
    exact ⟨rfl, rfl⟩
  by_cases e5 : k = 5
  · subst e5
    go_enter Tryz.func92, Tryz.ntmps92
    go_wp2_with fail
    go_ret
    exact ⟨rfl, rfl⟩
  have HK := Lib.hid (show kindOk k = true from by simp [kindOk, e0, e1, e5])
  have d0 : (k == 0) = false := by simpa using e0
  have d1 : (k == 1) = false := by simpa using e1
  have d5 : (k == 5) = false := by simpa using e5
  clear e0 e1 e5
  go_enter Tryz.func92, Tryz.ntmps92
  go_wp2_with fail
  go_ret
  exact ⟨by rw [HK.out]; rfl, rfl⟩

def splitV (a : Option Addr) (cap : Nat) (ws : List Int) : Value :=
  if isR ws then .tuple #[.slice a (endN ws) cap, .int .u64 (lastR ws), .bool true] else .tuple #[.slice none 0 0, .int .u64 0, .bool false]

set_option maxHeartbeats 1000000 in
theorem split_any (a : Option Addr) (cap n₀ : Nat) (ws : List Int) (hc : ws.length ≤ cap) (hu : ∀ n ∈ ws, u64 n) (hreach : ws.length * 8 ≤ 140737488351232) (w : World) (hI : Ints n₀ .u64 w a ws) :
    Calls Tryz.prog 97 #[.slice a ws.length cap] w (Quietly (splitV a cap ws) w) := by
  rcases hI with rfl | ⟨b, off, rfl, hb, hcs⟩
  · go_enter Tryz.func97, Tryz.ntmps97
    go_wp2_with fail
    go_ret3
    exact ⟨rfl, 0, rfl⟩
  · obtain ⟨n, hn⟩ : ∃ n, ws.length = n := ⟨_, rfl⟩
    have HN := Lib.hid hn
    rw [hn] at hc hreach hcs ⊢
    obtain ⟨x, hx⟩ : ∃ x, hd ws = x := ⟨_, rfl⟩
    have HX := Lib.hid hx
    by_cases h0 : n = 0
    · subst h0
      have HV := Lib.hid (show splitV (some ⟨b, off, none⟩) cap ws = .tuple #[.slice none 0 0, .int .u64 0, .bool false] from if_neg (fun h => by have := h.1; omega))
      clear hcs hu hx
      go_enter Tryz.func97, Tryz.ntmps97
      go_wp2_with fail
      go_ret3
      exact ⟨by rw [HV.out]; rfl, 0, rfl⟩
    have c0 := hcs 0 (by omega)
    rw [show ws[0]?.getD 0 = x from hx, Nat.add_zero] at c0
    have hx0 : 0 ≤ x ∧ x < 18446744073709551616 := by
      rw [← hx]; unfold hd; rw [List.getElem?_eq_getElem (by omega)]; exact hu _ (List.getElem_mem _)
    have d0 : ((n : Int) == 0) = false := by simpa using h0
    by_cases h1 : 96 < x
    · have HV := Lib.hid (show splitV (some ⟨b, off, none⟩) cap ws = .tuple #[.slice none 0 0, .int .u64 0, .bool false] from if_neg (fun h => by have := h.2.1; rw [hx] at this; omega))
      clear hcs hu hx
      go_enter Tryz.func97, Tryz.ntmps97
      go_wp2_with fail
      go_ret3
      exact ⟨by rw [HV.out]; rfl, 0, rfl⟩
    obtain ⟨y, rfl⟩ : ∃ y : Nat, x = (y : Int) := ⟨x.toNat, by omega⟩
    have hE : endN ws = 1 + 2 * y := by unfold endN; rw [hx]; rfl
    by_cases h2 : n ≤ 1 + 2 * y
    · have HV := Lib.hid (show splitV (some ⟨b, off, none⟩) cap ws = .tuple #[.slice none 0 0, .int .u64 0, .bool false] from if_neg (fun h => by have := h.2.2; rw [hx] at this; simp only [Int.toNat_natCast] at this; omega))
      clear hcs hu hx hE
      go_enter Tryz.func97, Tryz.ntmps97
      go_wp2_with fail
      go_ret3
      exact ⟨by rw [HV.out]; rfl, 0, rfl⟩
    · have HV := Lib.hid (show splitV (some ⟨b, off, none⟩) cap ws = .tuple #[.slice (some ⟨b, off, none⟩) (endN ws) cap, .int .u64 (lastR ws), .bool true] from if_pos ⟨by omega, by rw [hx]; omega, by rw [hx]; simp only [Int.toNat_natCast]; omega⟩)
      have c1 := hcs (1 + 2 * y) (by omega)
      rw [← hE, show ws[endN ws]?.getD 0 = lastR ws from rfl] at c1
      have HE := Lib.hid hE
      rw [hE] at c1
      obtain ⟨z, hz⟩ : ∃ z, lastR ws = z := ⟨_, rfl⟩
      rw [hz] at c1
      have HZ := Lib.hid hz
      clear hcs hu hx hE hz
      go_enter Tryz.func97, Tryz.ntmps97
      go_wp2_with fail
      go_quiet (fail)
      go_wp2_with fail
      go_ret3
      exact ⟨by rw [HV.out, HE.out, HZ.out]; rfl, _, rfl⟩

theorem isR_addr {a : Option Addr} {n₀ : Nat} {ws : List Int} {w : World} (hr : isR ws) (hI : Ints n₀ .u64 w a ws) :
    ∃ b off, a = some ⟨b, off, none⟩ ∧ b < n₀ ∧ ∀ j, j < ws.length → w.cell? ⟨b, off + j, none⟩ = some (.int .u64 (ws[j]?.getD 0)) := by
  rcases hI with rfl | h
  · exact absurd hr.1 (by simp)
  · exact h
theorem hd_bd {ws : List Int} (hr : 0 < ws.length) (hu : ∀ n ∈ ws, u64 n) : 0 ≤ hd ws ∧ hd ws < 18446744073709551616 := by
  unfold hd; rw [List.getElem?_eq_getElem hr]; exact hu _ (List.getElem_mem _)

set_option maxHeartbeats 1000000 in
theorem mark_any (a : Option Addr) (cap n₀ : Nat) (ws : List Int) (hc : ws.length ≤ cap) (hu : ∀ n ∈ ws, u64 n) (hreach : ws.length * 8 ≤ 140737488351232) (w : World) (hI : Ints n₀ .u64 w a ws) :
    Calls Tryz.prog 57 #[.slice a ws.length cap] w (Quietly (.int .u64 (markV ws)) w) := by
  have HS := Lib.hid (split_any a cap n₀ ws hc hu hreach w hI)
  by_cases hr : isR ws
  · have HV := Lib.hid (show splitV a cap ws = .tuple #[.slice a (endN ws) cap, .int .u64 (lastR ws), .bool true] from if_pos hr)
    have HM := Lib.hid (show markV ws = markF (lastR ws) (hd ws) from if_pos hr)
    obtain ⟨b, off, rfl, _, hcs⟩ := isR_addr hr hI
    have c0 := hcs 0 hr.1
    rw [show ws[0]?.getD 0 = hd ws from rfl, Nat.add_zero] at c0
    have hx := (⟨(hd_bd hr.1 hu).1, hr.2.1⟩ : 0 ≤ hd ws ∧ hd ws ≤ 96)
    have he : 0 < endN ws := by unfold endN; omega
    obtain ⟨x, hX⟩ : ∃ x, hd ws = x := ⟨_, rfl⟩
    obtain ⟨s, hS⟩ : ∃ s, lastR ws = s := ⟨_, rfl⟩
    obtain ⟨k, hK⟩ : ∃ k, endN ws = k := ⟨_, rfl⟩
    rw [hX] at c0 hx HM
    rw [hS] at HV HM
    rw [hK] at HV he
    clear hcs hu hX hS hK hI
    go_enter Tryz.func57, Tryz.ntmps57
    go_wp2_with fail
    refine HS.out.mono ?_
    rintro e w' ⟨rfl, m, rfl⟩
    have c0' : (w.drewN m).cell? ⟨b, off, none⟩ = some (.int .u64 x) := c0
    rw [HV.out]
    go_wp2_with fail
    go_ret
    exact ⟨by rw [HM.out]; rfl, m, rfl⟩
  · have HV := Lib.hid (show splitV a cap ws = .tuple #[.slice none 0 0, .int .u64 0, .bool false] from if_neg hr)
    have HM := Lib.hid (show markV ws = 0 from if_neg hr)
    clear hu hI
    go_enter Tryz.func57, Tryz.ntmps57
    go_wp2_with fail
    refine HS.out.mono ?_
    rintro e w' ⟨rfl, m, rfl⟩
    rw [HV.out]
    go_wp2_with fail
    go_ret
    exact ⟨by rw [HM.out]; rfl, m, rfl⟩

set_option maxHeartbeats 1000000 in
theorem rmark_any (a : Option Addr) (cap n₀ : Nat) (ws : List Int) (hc : ws.length ≤ cap) (hu : ∀ n ∈ ws, u64 n) (hreach : ws.length * 8 ≤ 140737488351232) (w : World) (hI : Ints n₀ .u64 w a ws) :
    Calls Tryz.prog 64 #[.slice a ws.length cap] w (Quietly (.int .u64 (markV ws)) w) := by
  obtain ⟨n, hn⟩ : ∃ n, ws.length = n := ⟨_, rfl⟩
  have HN := Lib.hid hn
  rw [hn] at hc hreach ⊢
  by_cases h0 : n = 0
  · subst h0
    have HM := Lib.hid (show markV ws = 0 from if_neg (fun h => by have := h.1; omega))
    clear hu hI
    go_enter Tryz.func64, Tryz.ntmps64
    go_wp2_with fail
    go_ret
    exact ⟨by rw [HM.out]; rfl, 0, rfl⟩
  obtain ⟨b, off, rfl, hb, hcs⟩ : ∃ b off, a = some ⟨b, off, none⟩ ∧ b < n₀ ∧ ∀ j, j < ws.length → w.cell? ⟨b, off + j, none⟩ = some (.int .u64 (ws[j]?.getD 0)) := by
    rcases hI with rfl | h
    · exact absurd hn.symm h0
    · exact h
  have hx0 := hd_bd (by omega) hu
  obtain ⟨x, hx⟩ : ∃ x, hd ws = x := ⟨_, rfl⟩
  have HX := Lib.hid hx
  have c0 := hcs 0 (by omega)
  rw [show ws[0]?.getD 0 = x from hx, Nat.add_zero] at c0
  rw [hx] at hx0
  by_cases h1 : 96 < x
  · have HM := Lib.hid (show markV ws = 0 from if_neg (fun h => by have := h.2.1; rw [hx] at this; omega))
    clear hu hI hcs hx
    go_enter Tryz.func64, Tryz.ntmps64
    go_wp2_with fail
    go_ret
    exact ⟨by rw [HM.out]; rfl, 0, rfl⟩
  obtain ⟨y, rfl⟩ : ∃ y : Nat, x = (y : Int) := ⟨x.toNat, by omega⟩
  have hE : endN ws = 1 + 2 * y := by unfold endN; rw [hx]; rfl
  by_cases h2 : n ≤ 1 + 2 * y
  · have HM := Lib.hid (show markV ws = 0 from if_neg (fun h => by have := h.2.2; rw [hx] at this; simp only [Int.toNat_natCast] at this; omega))
    clear hcs hu hx hE hI
    go_enter Tryz.func64, Tryz.ntmps64
    go_wp2_with fail
    go_ret
    exact ⟨by rw [HM.out]; rfl, 0, rfl⟩
  · have HM := Lib.hid (show markV ws = markF (lastR ws) (hd ws) from if_pos ⟨by omega, by rw [hx]; omega, by rw [hx]; simp only [Int.toNat_natCast]; omega⟩)
    have c1 := hcs (1 + 2 * y) (by omega)
    rw [← hE, show ws[endN ws]?.getD 0 = lastR ws from rfl] at c1
    rw [hE] at c1
    obtain ⟨z, hz⟩ : ∃ z, lastR ws = z := ⟨_, rfl⟩
    rw [hz] at c1 HM
    rw [hx] at HM
    clear hcs hu hx hE hz hI
    go_enter Tryz.func64, Tryz.ntmps64
    go_wp2_with fail
    go_quiet (fail)
    go_wp2_with fail
    go_ret
    exact ⟨by rw [HM.out]; rfl, _, rfl⟩

end Go.Proofs.YtkopfnldgnkkoaaGreat
