/-
  THE WALK OF grommetref04.Where, by looking at all places.
-/
import Derived.Test.YtkopfnldgnkkoaaLyD
import Derived.Test.YtkopfnldgnkkoaaLyE
namespace Go.Proofs.Ytkopfnldgnkkoaa
open Go.RowKit

theorem part_in {i m : Int} {many fr sz : Int} (h0 : 0 ≤ i) (h1 : i ≤ 3) (h2 : 0 ≤ m) (h3 : m ≤ many - 1) : partV i m many fr sz = fr + 8 + 64 * i + sz * m := by
  have hs : sessV i = 8 + 64 * i := if_pos ⟨h0, h1⟩
  unfold partV
  rw [hs, if_neg (by omega)]
  omega
theorem four_eq {k : IntKind} {a b c d : Int} {x : Int × Int × Int × Int} (h : x = (a, b, c, d)) (v : Value) (hv : v = .tuple #[.int k a, .int .i64 b, .int .i64 c, .int .i64 d]) : Ending.returned v = .returned (four k x) := by rw [hv, h]; rfl
theorem ref_sess0 {x : Int} {i : Nat} (h1 : 8 + 64 * (i : Int) ≤ x) (h2 : x < 16 + 64 * (i : Int)) : inSessV ((x - 8) / 64) ((x - 8) % 64) = (2, (i : Int), 0, x - (8 + 64 * (i : Int))) := by
  have e1 : (x - 8) / 64 = i := by omega
  have e2 : (x - 8) % 64 = x - (8 + 64 * i) := by omega
  rw [e1, e2]; unfold inSessV; rw [if_pos (by omega)]
theorem ref_sess1 {x : Int} {i m : Nat} (h1 : 16 + 64 * (i : Int) + 12 * (m : Int) ≤ x) (h2 : x < 16 + 64 * (i : Int) + 12 * ((m : Int) + 1)) (h3 : (m : Int) ≤ 3) : inSessV ((x - 8) / 64) ((x - 8) % 64) = (3, (i : Int), (m : Int), x - (8 + 8 + 64 * (i : Int) + 12 * (m : Int))) := by
  have e1 : (x - 8) / 64 = i := by omega
  have e2 : (x - 8) % 64 = x - (8 + 64 * i) := by omega
  rw [e1, e2]; unfold inSessV; rw [if_neg (by omega), if_pos (by omega)]
  congr 3 <;> omega
theorem ref_sess2 {x : Int} {i m : Nat} (h1 : 64 + 64 * (i : Int) + 2 * (m : Int) ≤ x) (h2 : x < 64 + 64 * (i : Int) + 2 * ((m : Int) + 1)) (h3 : (m : Int) ≤ 3) : inSessV ((x - 8) / 64) ((x - 8) % 64) = (4, (i : Int), (m : Int), x - (56 + 8 + 64 * (i : Int) + 2 * (m : Int))) := by
  have e1 : (x - 8) / 64 = i := by omega
  have e2 : (x - 8) % 64 = x - (8 + 64 * i) := by omega
  rw [e1, e2]; unfold inSessV; rw [if_neg (by omega), if_neg (by omega)]
  congr 3 <;> omega

set_option maxRecDepth 100000 in
set_option maxHeartbeats 4000000 in
theorem rwhere_sess {w0 w : World} (g : G) (x : Int) (hm : mayP g) (hx1 : 8 ≤ x) (hx2 : x < 264) (h : At w0 w) :
    Calls Try.prog 100 #[gV g, .int .i64 x] w fun e w' => e = .returned (four .i64 (whereV g x)) ∧ At w0 w' := by
  have Hmb := Lib.hid (mayB_true.2 hm)
  have HWd := Lib.hid (show wordsV g = atN g 7 from if_pos hm)
  have hb7 := (at_bd hm 7).2
  have WS := Lib.hid (show whereV g x = inSessV ((x - 8) / 64) ((x - 8) % 64) from where_row hm (n := 1) (by decide) (by omega) (by simpa [atN] using hx1) (by simpa [atN] using hx2))
  have hx7 : x < atN g 7 := by obtain ⟨g1, g2, g3, g4, g5, g6⟩ := hm; simp only [atN]; omega
  clear hm
  unfold gV
  go_enter Try.func100, Try.ntmps100
  go_wp2_with fail
  refine (rmay_any g (h.alloc _).self).mono ?_
  rintro e w1 ⟨rfl, k1⟩
  have b1 := (Box.new w g _).at k1
  have h1 := (h.alloc _).trans k1
  rw [Hmb.out]
  clear k1 h
  have hc0 := b1.c0
  have hc1 := b1.c1
  have hc2 := b1.c2
  go_wp2_with fail
  refine (rwords_any g h1.self).mono ?_
  rintro e w2 ⟨rfl, k2⟩
  have b2 := b1.at k2
  have h2 := h1.trans k2
  rw [HWd.out]
  clear k2 hc0 hc1 hc2 b1 h1
  go_wp2_with fail
  go_loop [8] (fun j => ∃ i : Nat, i ≤ 4 ∧ 8 + 64 * (i : Int) ≤ x ∧ j = .int .i64 i) (fun j => 4 - (intOf j).toNat)
  case atStart => exact ⟨0, by omega, by omega, rfl⟩
  case round =>
    obtain ⟨i, hi, hxi, rfl⟩ := hrel
    by_cases hi4 : i < 4
    · have HS := Lib.hid (show sessV (i : Int) = 8 + 64 * (i : Int) from if_pos (by omega))
      by_cases hp : 8 + 64 * ((i : Int) + 1) ≤ x
      · go_wp2_with fail
        go_loop [9] (fun k => ∃ m : Nat, (m ≤ 4) ∧ k = .int .i64 m) (fun k => 4 - (intOf k).toNat)
        case atStart => exact ⟨0, by omega, rfl⟩
        case round =>
          obtain ⟨m, hm4, rfl⟩ := hrel
          by_cases hlt : m < 4
          · have HP := Lib.hid (show partV (i : Int) (m : Int) 4 8 12 = 16 + 64 * (i : Int) + 12 * (m : Int) from part_in (by omega) (by omega) (by omega) (by omega))
            go_wp2_with fail
            refine (rslot_at _ _ _).mono ?_
            rintro e _ ⟨rfl, rfl⟩
            rw [HP.out]
            clear HP
            go_wp2_with fail
            go_round
            case rel => exact ⟨m + 1, by omega, by go_num⟩
            case measure => simp [intOf]; omega
          · obtain rfl : m = 4 := by omega
            go_wp2_with fail
            go_loop [11] (fun k => ∃ m : Nat, (m ≤ 4) ∧ k = .int .i64 m) (fun k => 4 - (intOf k).toNat)
            case atStart => exact ⟨0, by omega, rfl⟩
            case round =>
              obtain ⟨m, hm4, rfl⟩ := hrel
              by_cases hlt : m < 4
              · have HP := Lib.hid (show partV (i : Int) (m : Int) 4 56 2 = 64 + 64 * (i : Int) + 2 * (m : Int) from part_in (by omega) (by omega) (by omega) (by omega))
                go_wp2_with fail
                refine (rdescriptor_at _ _ _).mono ?_
                rintro e _ ⟨rfl, rfl⟩
                rw [HP.out]
                clear HP
                go_wp2_with fail
                go_round
                case rel => exact ⟨m + 1, by omega, by go_num⟩
                case measure => simp [intOf]; omega
              · obtain rfl : m = 4 := by omega
                go_wp2_with fail
                refine (rsession_at _ _).mono ?_
                rintro e _ ⟨rfl, rfl⟩
                rw [HS.out]
                go_wp2_with fail
                go_round
                case rel => exact ⟨i + 1, by omega, by omega, by go_num⟩
                case measure => simp [intOf]; omega
      · by_cases hr0 : x < 16 + 64 * (i : Int)
        · go_wp2_with fail
          go_loop [9] (fun k => ∃ m : Nat, (m ≤ 4) ∧ k = .int .i64 m) (fun k => 4 - (intOf k).toNat)
          case atStart => exact ⟨0, by omega, rfl⟩
          case round =>
            obtain ⟨m, hm4, rfl⟩ := hrel
            by_cases hlt : m < 4
            · have HP := Lib.hid (show partV (i : Int) (m : Int) 4 8 12 = 16 + 64 * (i : Int) + 12 * (m : Int) from part_in (by omega) (by omega) (by omega) (by omega))
              go_wp2_with fail
              refine (rslot_at _ _ _).mono ?_
              rintro e _ ⟨rfl, rfl⟩
              rw [HP.out]
              clear HP
              go_wp2_with fail
              go_round
              case rel => exact ⟨m + 1, by omega, by go_num⟩
              case measure => simp [intOf]; omega
            · obtain rfl : m = 4 := by omega
              go_wp2_with fail
              go_loop [11] (fun k => ∃ m : Nat, (m ≤ 4) ∧ k = .int .i64 m) (fun k => 4 - (intOf k).toNat)
              case atStart => exact ⟨0, by omega, rfl⟩
              case round =>
                obtain ⟨m, hm4, rfl⟩ := hrel
                by_cases hlt : m < 4
                · have HP := Lib.hid (show partV (i : Int) (m : Int) 4 56 2 = 64 + 64 * (i : Int) + 2 * (m : Int) from part_in (by omega) (by omega) (by omega) (by omega))
                  go_wp2_with fail
                  refine (rdescriptor_at _ _ _).mono ?_
                  rintro e _ ⟨rfl, rfl⟩
                  rw [HP.out]
                  clear HP
                  go_wp2_with fail
                  go_round
                  case rel => exact ⟨m + 1, by omega, by go_num⟩
                  case measure => simp [intOf]; omega
                · obtain rfl : m = 4 := by omega
                  go_wp2_with fail
                  refine (rsession_at _ _).mono ?_
                  rintro e _ ⟨rfl, rfl⟩
                  rw [HS.out]
                  go_wp2_with fail
                  refine bodyPost_ret (results_tmp4 rfl _ _ _) rfl ?_
                  exact ⟨four_eq (by rw [WS.out]; exact ref_sess0 (by omega) (by omega)) _ rfl, h2⟩
        · by_cases hr1 : x < 64 + 64 * (i : Int)
          · go_wp2_with fail
            go_loop [9] (fun k => ∃ m : Nat, (m ≤ 4 ∧ (16 + 64 * i + 12 * m ≤ x)) ∧ k = .int .i64 m) (fun k => 4 - (intOf k).toNat)
            case atStart => exact ⟨0, ⟨by omega, by omega⟩, rfl⟩
            case round =>
              obtain ⟨m, hm4, rfl⟩ := hrel
              by_cases hlt : m < 4
              · have HP := Lib.hid (show partV (i : Int) (m : Int) 4 8 12 = 16 + 64 * (i : Int) + 12 * (m : Int) from part_in (by omega) (by omega) (by omega) (by omega))
                by_cases hk : 16 + 64 * i + 12 * (m + 1) ≤ x
                · go_wp2_with fail
                  refine (rslot_at _ _ _).mono ?_
                  rintro e _ ⟨rfl, rfl⟩
                  rw [HP.out]
                  clear HP
                  go_wp2_with fail
                  go_round
                  case rel => exact ⟨m + 1, ⟨by omega, by omega⟩, by go_num⟩
                  case measure => simp [intOf]; omega
                · go_wp2_with fail
                  refine (rslot_at _ _ _).mono ?_
                  rintro e _ ⟨rfl, rfl⟩
                  rw [HP.out]
                  clear HP
                  go_wp2_with fail
                  refine bodyPost_ret (results_tmp4 rfl _ _ _) rfl ?_
                  exact ⟨four_eq (by rw [WS.out]; exact ref_sess1 (by omega) (by omega) (by omega)) _ rfl, h2⟩
              · obtain rfl : m = 4 := by omega
                exfalso; omega
          · go_wp2_with fail
            go_loop [9] (fun k => ∃ m : Nat, (m ≤ 4) ∧ k = .int .i64 m) (fun k => 4 - (intOf k).toNat)
            case atStart => exact ⟨0, by omega, rfl⟩
            case round =>
              obtain ⟨m, hm4, rfl⟩ := hrel
              by_cases hlt : m < 4
              · have HP := Lib.hid (show partV (i : Int) (m : Int) 4 8 12 = 16 + 64 * (i : Int) + 12 * (m : Int) from part_in (by omega) (by omega) (by omega) (by omega))
                go_wp2_with fail
                refine (rslot_at _ _ _).mono ?_
                rintro e _ ⟨rfl, rfl⟩
                rw [HP.out]
                clear HP
                go_wp2_with fail
                go_round
                case rel => exact ⟨m + 1, by omega, by go_num⟩
                case measure => simp [intOf]; omega
              · obtain rfl : m = 4 := by omega
                go_wp2_with fail
                go_loop [11] (fun k => ∃ m : Nat, (m ≤ 4 ∧ (64 + 64 * i + 2 * m ≤ x)) ∧ k = .int .i64 m) (fun k => 4 - (intOf k).toNat)
                case atStart => exact ⟨0, ⟨by omega, by omega⟩, rfl⟩
                case round =>
                  obtain ⟨m, hm4, rfl⟩ := hrel
                  by_cases hlt : m < 4
                  · have HP := Lib.hid (show partV (i : Int) (m : Int) 4 56 2 = 64 + 64 * (i : Int) + 2 * (m : Int) from part_in (by omega) (by omega) (by omega) (by omega))
                    by_cases hk : 64 + 64 * i + 2 * (m + 1) ≤ x
                    · go_wp2_with fail
                      refine (rdescriptor_at _ _ _).mono ?_
                      rintro e _ ⟨rfl, rfl⟩
                      rw [HP.out]
                      clear HP
                      go_wp2_with fail
                      go_round
                      case rel => exact ⟨m + 1, ⟨by omega, by omega⟩, by go_num⟩
                      case measure => simp [intOf]; omega
                    · go_wp2_with fail
                      refine (rdescriptor_at _ _ _).mono ?_
                      rintro e _ ⟨rfl, rfl⟩
                      rw [HP.out]
                      clear HP
                      go_wp2_with fail
                      refine bodyPost_ret (results_tmp4 rfl _ _ _) rfl ?_
                      exact ⟨four_eq (by rw [WS.out]; exact ref_sess2 (by omega) (by omega) (by omega)) _ rfl, h2⟩
                  · obtain rfl : m = 4 := by omega
                    exfalso; omega
    · exfalso; omega

end Go.Proofs.Ytkopfnldgnkkoaa
