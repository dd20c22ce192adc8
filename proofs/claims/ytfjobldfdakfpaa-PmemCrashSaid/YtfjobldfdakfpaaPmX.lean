/-
  THE WALK OF PmemCrash.
-/
import Derived.Test.YtfjobldfdakfpaaPmW
namespace Go.Proofs.Ytfjobldfdakfpaa
open Go.RowKit Go.Shelf
set_option linter.unusedVariables false

/-- A row of 16 words. -/
structure Was (W : World) (g : Nat) (u : Nat → Int) : Prop where
  c : ∀ m, m < 16 → W.cell? ⟨g, m, none⟩ = some (.int .u64 (u m))
  f : ∀ j, W.frozen? ⟨g, j, none⟩ = false
theorem Was.up {W W' : World} {g t : Nat} {u : Nat → Int} (h : Was W g u) (k : Up t W W') (hg : g ≠ t) : Was W' g u :=
  ⟨fun m hm => k.cell (h.c m hm) hg, fun j => (k.frozen (p := ⟨g, j, none⟩) (cell_lt (h.c 0 (by omega))).1 hg).trans (h.f j)⟩
theorem Was.nw {W W' : World} {g : Nat} {u : Nat → Int} (h : Was W g u) (k : Nw W W') : Was W' g u :=
  h.up (t := W.heap.size) (.of_nw k) (Nat.ne_of_lt (cell_lt (h.c 0 (by omega))).1)
theorem Was.set {W : World} {g : Nat} {u : Nat → Int} (h : Was W g u) (j : Nat) (v : Int) : Was (W.setCell ⟨g, j, none⟩ (.int .u64 v)) g (fun m => if m = j then v else u m) :=
  ⟨fun m hm => cell_set W g _ _ _ _ (h.c m hm) _ (by by_cases e : m = j <;> simp [e]), fun i => by rw [World.frozen?_setCell]; exact h.f i⟩
theorem Was.congr {W : World} {g : Nat} {u v : Nat → Int} (h : Was W g u) (e : ∀ m, m < 16 → u m = v m) : Was W g v := ⟨fun m hm => by rw [h.c m hm, e m hm], h.f⟩
def z16 : Array Value := #[.int .u64 0, .int .u64 0, .int .u64 0, .int .u64 0, .int .u64 0, .int .u64 0, .int .u64 0, .int .u64 0, .int .u64 0, .int .u64 0, .int .u64 0, .int .u64 0, .int .u64 0, .int .u64 0, .int .u64 0, .int .u64 0]
theorem was_new (w : World) (t : TypeId) : Was (w.alloc (.cells z16 t)) w.heap.size (fun _ => 0) :=
  ⟨fun m hm => cell_new w z16 t m _ (by
    have he : z16 = (List.replicate 16 (Value.int .u64 0)).toArray := rfl
    rw [he, List.getElem?_toArray, List.getElem?_replicate, if_pos hm]), fun j => by simp [go_sem]⟩
theorem store_seen (f : Nat → Wd) (x : Pt) (m : Nat) : (storeP f x m).seen = if m = x.q % 16 then x.v else (f m).seen := by
  unfold storeP upd
  split <;> rfl
/-- What is told of a word so far. -/
def fineB (l : List Pt) (u v : Int) (m : Nat) : Bool := (v == u) || l.any fun x => !x.fl && (x.q % 16 == m && x.v == v)
theorem fineB_succ (l : List Pt) (k : Nat) (h : k < l.length) (u v : Int) (m : Nat) : fineB (l.take (k + 1)) u v m = (fineB (l.take k) u v m || (!l[k].fl && (l[k].q % 16 == m && l[k].v == v))) := by
  unfold fineB
  rw [List.take_succ_eq_append_getElem h, List.any_append]
  simp [Bool.or_assoc]
theorem fineB_of {l : List Pt} {u v : Int} {m : Nat} (h : mayP l u m v) : fineB l u v m = true := by
  unfold fineB
  rcases h with rfl | ⟨x, hx, h1, h2, h3⟩
  · simp
  · rw [Bool.or_eq_true]
    refine .inr (List.any_eq_true.2 ⟨x, hx, by simp [h1, h2, h3]⟩)
theorem evictsL_succ (f : Nat → Wd) (l : List Nat) (k : Nat) (h : k < l.length) : evictsL f (l.take (k + 1)) = evictL (l[k] % 2) (evictsL f (l.take k)) := by
  unfold evictsL
  rw [List.take_succ_eq_append_getElem h, List.foldl_append]; rfl

set_option maxRecDepth 100000 in
set_option maxHeartbeats 8000000 in
theorem walk_crash (a0 : Option Addr) (len0 cap0 : Nat) (l0 : List Pt) (hl0 : l0.length = len0) (hok0 : ∀ x ∈ l0, ptOk x)
    (a1 : Option Addr) (len1 cap1 : Nat) (l1 : List Pt) (hl1 : l1.length = len1) (hok1 : ∀ x ∈ l1, ptOk x)
    (a2 : Option Addr) (len2 cap2 : Nat) (ev : List Nat) (hl2 : ev.length = len2) (hok2 : ∀ x ∈ ev, x ≤ 255)
    (a3 : Option Addr) (len3 cap3 : Nat) (pk : List Int) (hl3 : pk.length = len3) (hlc3 : len3 ≤ cap3) (hok3 : ∀ x ∈ pk, 0 ≤ x ∧ x ≤ 255)
    (w : World) (hI0 : Recs ptC 3 w.heap.size w a0 l0) (hI1 : Recs ptC 3 w.heap.size w a1 l1) (hI2 : Ints w.heap.size .u8 w a2 (ev.map fun (n : Nat) => (n : Int))) (hI3 : Ints w.heap.size .u8 w a3 pk) :
    Calls Try.prog 5 #[.slice a0 len0 cap0, .slice a1 len1 cap1, .slice a2 len2 cap2, .slice a3 len3 cap3] w fun e w' => e = .returned (.bool true) ∧ Below w.heap.size w w' := by
  by_cases hbig : 60 < len0 ∨ 60 < len1 ∨ 20 < len2 ∨ 100 < len3
  · clear hI0 hI1 hI2 hI3 hok0 hok1 hok2 hok3 hl0 hl1 hl2 hl3
    by_cases h0 : 60 < len0
    · go_enter Try.func5, Try.ntmps5
      go_wp2_with fail
      refine (works_any _).mono ?_
      rintro e w1 ⟨rfl, hN⟩
      go_wp2_with fail
      go_ret
      exact ⟨rfl, hN.b⟩
    by_cases h1 : 60 < len1
    · go_enter Try.func5, Try.ntmps5
      go_wp2_with fail
      refine (works_any _).mono ?_
      rintro e w1 ⟨rfl, hN⟩
      go_wp2_with fail
      go_ret
      exact ⟨rfl, hN.b⟩
    by_cases h2 : 20 < len2
    · go_enter Try.func5, Try.ntmps5
      go_wp2_with fail
      refine (works_any _).mono ?_
      rintro e w1 ⟨rfl, hN⟩
      go_wp2_with fail
      go_ret
      exact ⟨rfl, hN.b⟩
    have h3 : 100 < len3 := by omega
    clear hbig
    go_enter Try.func5, Try.ntmps5
    go_wp2_with fail
    refine (works_any _).mono ?_
    rintro e w1 ⟨rfl, hN⟩
    go_wp2_with fail
    go_ret
    exact ⟨rfl, hN.b⟩
  have b0 : ¬ 60 < len0 := by omega
  have b1 : ¬ 60 < len1 := by omega
  have b2 : ¬ 20 < len2 := by omega
  have b3 : ¬ 100 < len3 := by omega
  clear hbig
  have HI0 := Lib.hid hI0
  have HI1 := Lib.hid hI1
  have HI2 := Lib.hid hI2
  have HI3 := Lib.hid hI3
  have HK0 := Lib.hid hok0
  have HK1 := Lib.hid hok1
  have HK2 := Lib.hid hok2
  have HK3 := Lib.hid hok3
  have HL0 := Lib.hid hl0
  have HL1 := Lib.hid hl1
  have HL2 := Lib.hid hl2
  have HL3 := Lib.hid hl3
  clear hI0 hI1 hI2 hI3 hok0 hok1 hok2 hok3 hl0 hl1 hl2 hl3
  go_enter Try.func5, Try.ntmps5
  go_wp2_with fail
  refine (new_yes _).mono ?_
  rintro e w1 ⟨d, b, rfl, hD, hN, hb, hd⟩
  have HN1 := Lib.hid hN
  have HD1 := Lib.hid hD
  have hbl := (cell_lt (hD.a.c0 0 (by omega))).1
  have hdl := (cell_lt hD.s).1
  dsimp only at hbl hdl
  have hs1 := hN.b.size
  clear hN hD
  go_wp2_with fail
  have HW2 := Lib.hid (was_new w1 43)
  have HN2 := Lib.hid (HN1.out.alloc (.cells z16 43))
  have HD2 := Lib.hid (HD1.out.nw ((Nw.refl (w := w1)).alloc (.cells z16 43)))
  unfold z16 at HW2 HN2 HD2
  have hg0 : w1.heap.size ≠ b := by omega
  have hg2 : d ≠ w1.heap.size := by omega
  have hg1 : w.heap.size ≤ w1.heap.size := hs1
  generalize hW2 : w1.alloc (.cells (#[.int .u64 0, .int .u64 0, .int .u64 0, .int .u64 0, .int .u64 0, .int .u64 0, .int .u64 0, .int .u64 0, .int .u64 0, .int .u64 0, .int .u64 0, .int .u64 0, .int .u64 0, .int .u64 0, .int .u64 0, .int .u64 0] : Array Value) 43) = W2 at *
  generalize w1.heap.size = g at *
  clear hW2 HN1 HD1 hbl hdl
  go_loopw [12] (fun i wr => ∃ k : Nat, k ≤ len0 ∧ i = .int .i64 k ∧ Nw w wr ∧ DevAt wr d b (firstL (l0.take k)) ∧ Was wr g (fun m => (firstL (l0.take k) m).seen)) (fun i _ => len0 - (intOf i).toNat)
  case atStart => exact ⟨0, Nat.zero_le _, rfl, HN2.out, HD2.out, HW2.out⟩
  case round =>
    obtain ⟨k, hk, rfl, hn, hD, hw⟩ := hrel
    have HN := Lib.hid hn
    have HD := Lib.hid hD
    have HW := Lib.hid hw
    clear hn hD hw
    by_cases hlt : k < len0
    · obtain ⟨ib, io, rfl, hib, g0, g1, g2⟩ := puts_at HI0.out (k := k) (by rw [HL0.out]; exact hlt)
      have HS := Lib.hid (firstL_succ l0 k (by rw [HL0.out]; exact hlt))
      obtain ⟨hq8, _, _⟩ := HK0.out (l0[k]'(by rw [HL0.out]; exact hlt)) (List.getElem_mem _)
      obtain ⟨x, hx⟩ : ∃ x, l0[k]'(by rw [HL0.out]; exact hlt) = x := ⟨_, rfl⟩
      rw [hx] at g0 g1 HS hq8
      replace g0 := (HN.out.b.cell (p := ⟨ib, io + k * 3, none⟩) hib).trans g0
      replace g1 := (HN.out.b.cell (p := ⟨ib, io + k * 3 + 1, none⟩) hib).trans g1
      clear hx g2
      go_wp2_with fail
      rw [show ((x.q : Int) % 16) = ((x.q % 16 : Nat) : Int) from by omega]
      refine (store_any d b _ (x.q % 16) (by omega) x.v _ HD.out).mono ?_
      rintro e w3 ⟨rfl, hD, hu⟩
      have HD3 := Lib.hid hD
      have HW3 := Lib.hid (HW.out.up hu hg0)
      have HN3 := Lib.hid (HN.out.up hu hb)
      replace g1 := hu.cell g1 (by show ib ≠ b; omega)
      have cw := HW3.out.c (x.q % 16) (by omega)
      have fw := HW3.out.f (x.q % 16)
      clear hD hu g0
      go_wp2_with fail
      go_roundw
      case rel =>
        refine ⟨k + 1, by omega, by go_num, ⟨HN3.out.b.setCell (p := ⟨g, x.q % 16, none⟩) (by show _ ≤ g; omega) _⟩, ?_, ?_⟩
        · rw [HS.out]
          exact HD3.out.up ((Up.refl g _).set _ _) hg2 (Ne.symm hg0)
        · rw [HS.out]
          exact (HW3.out.set (x.q % 16) x.v).congr fun m _ => by rw [store_seen]
      case measure => simp [intOf]; omega
    · obtain rfl : k = len0 := by omega
      have hD := HD.out
      have hW := HW.out
      rw [List.take_of_length_le (by rw [HL0.out]; omega)] at hD hW
      have HD4 := Lib.hid hD
      have HW4 := Lib.hid hW
      clear HD HW hD hW
      have hsz4 := HN.out.b.size
      have HFF := Lib.hid (first_fine l0)
      go_wp2_with fail
      refine (flush_any d b _ 0 (by omega) _ HD4.out).mono ?_
      rintro e w3 ⟨rfl, hD, hu⟩
      have HU3 := Lib.hid hu
      have HD3 := Lib.hid hD
      clear hD hu
      go_wp2_with fail
      refine (flush_any d b _ 1 (by omega) _ HD3.out).mono ?_
      rintro e w4 ⟨rfl, hD, hu⟩
      have HU4 := Lib.hid (HU3.out.trans hu)
      have HD4 := Lib.hid hD
      clear hD hu
      go_wp2_with fail
      refine (fence_any d b _ _ HD4.out).mono ?_
      rintro e w5 ⟨rfl, hD, hu⟩
      have HU5 := Lib.hid (HU4.out.trans hu)
      have HD5 := Lib.hid (show DevAt w5 d b (settledL (firstL l0)) from hD)
      have HSE := Lib.hid (settled_at HFF.out.1 HFF.out.2)
      have HSO := Lib.hid (settled_sound HFF.out.1 HFF.out.2)
      clear hD hu
      generalize settledL (firstL l0) = f1 at *
      go_wp2_with fail
      refine (loose_any d b _ _ HD5.out).mono ?_
      rw [lsL_nil fun m hm => (HSE.out m hm).2.2.1]
      rintro e w6 ⟨rfl, hN⟩
      have HD6 := Lib.hid (HD5.out.nw hN)
      have HU6 := Lib.hid (HU5.out.nw hN)
      have HW6 := Lib.hid (HW4.out.up HU6.out hg0)
      have HN6 := Lib.hid (HN.out.up HU6.out hb)
      have HSI := Lib.hid (show ∀ m, m < 16 → Since (mayP l1 (firstL l0 m).seen m) (f1 m) from fun m hm => by
        obtain ⟨e1, e2, e3, e4⟩ := HSE.out m hm
        exact ⟨.inl e1, .inl e2, fun h => by rw [e4] at h; cases h⟩)
      generalize hu6 : (fun m => (firstL l0 m).seen) = u6 at *
      have HV : Hid (∀ m, (firstL l0 m).seen = u6 m) := (fun m => by rw [← hu6])
      clear hN HU3 HU4 HU5 HU6 HD4 HD3 HD5 HW4 HN HSE hu6 HFF hsz4 HN2 HD2 HW2
      go_wp2_with fail
      go_loopw [14] (fun i wr => ∃ k : Nat, k ≤ len1 ∧ i = .int .i64 k ∧ Up b w6 wr ∧ DevAt wr d b (thenL f1 (l1.take k))) (fun i _ => len1 - (intOf i).toNat)
      case atStart => exact ⟨0, Nat.zero_le _, rfl, .refl _ _, HD6.out⟩
      case round =>
        obtain ⟨k2, hk2, rfl, hu, hD⟩ := hrel
        have HU := Lib.hid hu
        have HD := Lib.hid hD
        clear hu hD
        by_cases hlt2 : k2 < len1
        · obtain ⟨ib, io, rfl, hib, g0, g1, g2⟩ := puts_at HI1.out (k := k2) (by rw [HL1.out]; exact hlt2)
          have HS := Lib.hid (thenL_succ f1 l1 k2 (by rw [HL1.out]; exact hlt2))
          obtain ⟨hq8, _, _⟩ := HK1.out (l1[k2]'(by rw [HL1.out]; exact hlt2)) (List.getElem_mem _)
          obtain ⟨x, hx⟩ : ∃ x, l1[k2]'(by rw [HL1.out]; exact hlt2) = x := ⟨_, rfl⟩
          rw [hx] at g0 g1 g2 HS hq8
          replace g0 := HU.out.cell ((HN6.out.b.cell (p := ⟨ib, io + k2 * 3, none⟩) hib).trans g0) (by show ib ≠ b; omega)
          replace g1 := HU.out.cell ((HN6.out.b.cell (p := ⟨ib, io + k2 * 3 + 1, none⟩) hib).trans g1) (by show ib ≠ b; omega)
          replace g2 := HU.out.cell ((HN6.out.b.cell (p := ⟨ib, io + k2 * 3 + 2, none⟩) hib).trans g2) (by show ib ≠ b; omega)
          clear hx
          cases hf : x.fl
          · rw [hf] at g2
            have HF := Lib.hid (show ∀ F, doPt F x = upd F (x.q % 16) (storeW (F (x.q % 16)) x.v) from fun F => by rw [doPt, hf]; rfl)
            clear hf
            go_wp2_with fail
            rw [show ((x.q : Int) % 16) = ((x.q % 16 : Nat) : Int) from by omega]
            refine (store_any d b _ (x.q % 16) (by omega) x.v _ HD.out).mono ?_
            rintro e w7 ⟨rfl, hD, hu⟩
            have HD2 := Lib.hid hD
            have HU2 := Lib.hid (HU.out.trans hu)
            clear hD hu
            go_wp2_with fail
            go_roundw
            case rel => exact ⟨k2 + 1, by omega, by go_num, HU2.out, by rw [HS.out, HF.out]; exact HD2.out⟩
            case measure => simp [intOf]; omega
          · rw [hf] at g2
            have HF := Lib.hid (show ∀ F, doPt F x = flushL (x.q % 16 / 8) F from fun F => by rw [doPt, hf]; rfl)
            clear hf
            go_wp2_with fail
            rw [show ((x.q : Int) % 16 / 8) = ((x.q % 16 / 8 : Nat) : Int) from by omega]
            refine (flush_any d b _ (x.q % 16 / 8) (by omega) _ HD.out).mono ?_
            rintro e w7 ⟨rfl, hD, hu⟩
            have HD2 := Lib.hid hD
            have HU2 := Lib.hid (HU.out.trans hu)
            clear hD hu
            go_wp2_with fail
            go_roundw
            case rel => exact ⟨k2 + 1, by omega, by go_num, HU2.out, by rw [HS.out, HF.out]; exact HD2.out⟩
            case measure => simp [intOf]; omega
        · obtain rfl : k2 = len1 := by omega
          have hD := HD.out
          rw [List.take_of_length_le (by rw [HL1.out]; omega)] at hD
          have HD7 := Lib.hid hD
          have HSO2 := Lib.hid (sound_then HSO.out l1)
          have HSI2 := Lib.hid (since_then l1 (fun m => (firstL l0 m).seen) l1 (fun x hx => hx) f1 HSI.out)
          have HU7 := Lib.hid HU.out
          clear HU HD hD HSO HSI HD6
          generalize thenL f1 l1 = f2 at *
          go_wp2_with fail
          go_loopw [17] (fun i wr => ∃ k : Nat, k ≤ len2 ∧ i = .int .i64 k ∧ Up b w6 wr ∧ DevAt wr d b (evictsL f2 (ev.take k))) (fun i _ => len2 - (intOf i).toNat)
          case atStart => exact ⟨0, Nat.zero_le _, rfl, HU7.out, HD7.out⟩
          case round =>
            obtain ⟨k3, hk3, rfl, hu, hD⟩ := hrel
            have HU := Lib.hid hu
            have HD := Lib.hid hD
            clear hu hD
            by_cases hlt3 : k3 < len2
            · obtain ⟨ib, io, rfl, hib, g0⟩ := HI2.out.at (j := k3) (by rw [List.length_map, HL2.out]; exact hlt3)
              have HS := Lib.hid (evictsL_succ f2 ev k3 (by rw [HL2.out]; exact hlt3))
              have hq8 := HK2.out (ev[k3]'(by rw [HL2.out]; exact hlt3)) (List.getElem_mem _)
              rw [List.getElem_map] at g0
              obtain ⟨x, hx⟩ : ∃ x, ev[k3]'(by rw [HL2.out]; exact hlt3) = x := ⟨_, rfl⟩
              rw [hx] at g0 HS hq8
              replace g0 := HU.out.cell ((HN6.out.b.cell (p := ⟨ib, io + k3, none⟩) hib).trans g0) (by show ib ≠ b; omega)
              clear hx
              go_wp2_with fail
              rw [show ((x : Int) % 2) = ((x % 2 : Nat) : Int) from by omega]
              refine (evict_any d b _ (x % 2) (by omega) _ HD.out).mono ?_
              rintro e w7 ⟨rfl, hD, hu⟩
              have HD2 := Lib.hid hD
              have HU2 := Lib.hid (HU.out.trans hu)
              clear hD hu
              go_wp2_with fail
              go_roundw
              case rel => exact ⟨k3 + 1, by omega, by go_num, HU2.out, by rw [HS.out]; exact HD2.out⟩
              case measure => simp [intOf]; omega
            · obtain rfl : k3 = len2 := by omega
              have hD := HD.out
              rw [List.take_of_length_le (by rw [HL2.out]; omega)] at hD
              have HD8 := Lib.hid hD
              have HU8 := Lib.hid HU.out
              have hs8 := HU8.out.size
              have hs6 := HN6.out.b.size
              have HSO3 := Lib.hid (sound_evicts HSO2.out ev)
              have HSI3 := Lib.hid (since_evicts (fun m => mayP l1 (firstL l0 m).seen m) ev f2 HSI2.out)
              clear HU HD hD HSO2 HSI2 HD7 HU7
              generalize evictsL f2 ev = f3 at *
              go_wp2_with fail
              refine (crash_gen d b f3 w.heap.size a3 len3 cap3 pk HL3.out hlc3 (by omega) HK3.out _ (by omega) (fun hne p hp => (by rcases HI3.out with h0 | ⟨ib, io, rfl, hib, _⟩; exact absurd h0 hne; cases hp; show ib ≠ b; omega)) (ints_upy HU8.out (fun hne p hp => (by rcases HI3.out with h0 | ⟨ib, io, rfl, hib, _⟩; exact absurd h0 hne; cases hp; show ib ≠ b; omega)) (HI3.out.below HN6.out.b)) HD8.out).mono ?_
              rintro e w9 ⟨rfl, hD, hu⟩
              have HD9 := Lib.hid hD
              have HU9 := Lib.hid (HU8.out.trans hu)
              have HCL := Lib.hid (crash_law l1 (fun m => (firstL l0 m).seen) pk HSO3.out HSI3.out)
              clear hD hu HU8 HSO3 HSI3 HD8
              generalize gone (crashW pk) 0 0 (lsL f3) f3 = G at *
              go_wp2_with fail
              refine (loose_any d b _ _ HD9.out).mono ?_
              rw [lsL_nil fun m hm => (HCL.out m hm).2.2]
              rintro e w10 ⟨rfl, hN⟩
              have HU10 := Lib.hid (HU9.out.nw hN)
              have HD10 := Lib.hid (HD9.out.nw hN)
              clear hN
              go_wp2_with fail
              refine (sure_any d b G w10 HD10.out).mono ?_
              intro e w11 h
              obtain ⟨ax, cx, rfl, hbx, hIx, hN⟩ := h.row16 (rowL_length _ _ _)
              have HX11 := Lib.hid hIx
              have HD11 := Lib.hid (HD10.out.nw hN)
              have HU11 := Lib.hid (HU10.out.nw hN)
              clear h hIx hN
              go_wp2_with fail
              refine (seen_any d b G w11 HD11.out).mono ?_
              intro e w12 h
              obtain ⟨ay, cy, rfl, _, hIy, hN⟩ := h.row16 (rowL_length _ _ _)
              have HX12 := Lib.hid (HX11.out.nw (n := 0) hN)
              have HY12 := Lib.hid hIy
              have HU12 := Lib.hid (HU11.out.nw hN)
              clear h hIy hN
              go_wp2_with fail
              refine (same_yes _ _ _ _ _ _ (rowL_length _ _ _) (rowL_congr (p := (·.sure)) (q := (·.seen)) fun m hm => (HCL.out m hm).2.1) _ HX12.out HY12.out).mono ?_
              rintro e w13 ⟨rfl, hN⟩
              have HX13 := Lib.hid (HX12.out.nw (n := 0) hN)
              have HU13 := Lib.hid (HU12.out.nw hN)
              have HW13 := Lib.hid (HW6.out.up HU13.out hg0)
              clear hN HX12 HY12 HX11 HD11 HU12 HU11 HD10 HU10 HU9
              have hN613 := HU13.out.size
              have HI1b := Lib.hid HI1.out
              go_wp2_with fail
              go_loopw [19] (fun i wr => ∃ m : Nat, m ≤ 16 ∧ i = .int .i64 m ∧ ∃ n, wr = w13.drewN n) (fun i _ => 16 - (intOf i).toNat)
              case atStart => exact ⟨0, Nat.zero_le _, rfl, 0, rfl⟩
              case round =>
                obtain ⟨m, hm, rfl, n, hwn⟩ := hrel
                have HWN := Lib.hid hwn
                clear hwn
                by_cases hm16 : m < 16
                · obtain ⟨gx, ox, rfl, _, p1⟩ := HX13.out.at (j := m) (by rw [rowL_length]; exact hm16)
                  have p2 := HW13.out.c m hm16
                  have q1 := (show _ = _ from by rw [HWN.out]; rfl : wr.cell? ⟨gx, ox + m, none⟩ = w13.cell? ⟨gx, ox + m, none⟩).trans p1
                  have q2 := (show _ = _ from by rw [HWN.out]; rfl : wr.cell? ⟨g, m, none⟩ = w13.cell? ⟨g, m, none⟩).trans p2
                  have HFI := Lib.hid (fineB_of (HCL.out m hm16).1)
                  rw [HV.out] at HFI
                  rw [show (rowL (·.sure) G 16)[m]'(by rw [rowL_length]; exact hm16) = (G m).sure from by simp [rowL]] at q1
                  have HQ1 := Lib.hid p1
                  rw [show (rowL (·.sure) G 16)[m]'(by rw [rowL_length]; exact hm16) = (G m).sure from by simp [rowL]] at HQ1
                  clear p1 p2
                  generalize (G m).sure = v at *
                  generalize u6 m = u at *
                  go_wp2_with fail
                  go_quiet (fail)
                  go_wp2_with fail
                  go_loopw [20, 21] (fun f i wq => ∃ (j : Nat) (fb : Bool), j ≤ k2 ∧ i = .int .i64 j ∧ f = .bool fb ∧ fineB (l1.take j) u v m = fb ∧ ∃ n, wq = w13.drewN n) (fun _ i _ => k2 - (intOf i).toNat)
                  case atStart => exact ⟨0, v == u, Nat.zero_le _, rfl, rfl, by simp [fineB], n + nq, by rw [HWN.out, World.drewN_drewN]⟩
                  case round =>
                    clear q1 q2 HWN
                    obtain ⟨j, fb, hj, rfl, rfl, hfb, n2, hwn⟩ := hrel
                    have HWN := Lib.hid hwn
                    have HFB := Lib.hid hfb
                    clear hwn hfb
                    by_cases hjl : j < k2
                    · have HFS := Lib.hid (fineB_succ l1 j (by rw [HL1.out]; exact hjl) u v m)
                      rw [HFB.out] at HFS
                      obtain ⟨ib, io, rfl, hib, g0, g1, g2⟩ := puts_at HI1.out (k := j) (by rw [HL1.out]; exact hjl)
                      obtain ⟨hq8, _, _⟩ := HK1.out (l1[j]'(by rw [HL1.out]; exact hjl)) (List.getElem_mem _)
                      obtain ⟨x, hx⟩ : ∃ x, l1[j]'(by rw [HL1.out]; exact hjl) = x := ⟨_, rfl⟩
                      rw [hx] at g0 g1 g2 HFS hq8
                      replace g0 := (show _ = _ from by rw [HWN.out]; rfl : wr.cell? ⟨ib, io + j * 3, none⟩ = w13.cell? ⟨ib, io + j * 3, none⟩).trans (HU13.out.cell ((HN6.out.b.cell (p := ⟨ib, io + j * 3, none⟩) hib).trans g0) (by show ib ≠ b; omega))
                      replace g1 := (show _ = _ from by rw [HWN.out]; rfl : wr.cell? ⟨ib, io + j * 3 + 1, none⟩ = w13.cell? ⟨ib, io + j * 3 + 1, none⟩).trans (HU13.out.cell ((HN6.out.b.cell (p := ⟨ib, io + j * 3 + 1, none⟩) hib).trans g1) (by show ib ≠ b; omega))
                      replace g2 := (show _ = _ from by rw [HWN.out]; rfl : wr.cell? ⟨ib, io + j * 3 + 2, none⟩ = w13.cell? ⟨ib, io + j * 3 + 2, none⟩).trans (HU13.out.cell ((HN6.out.b.cell (p := ⟨ib, io + j * 3 + 2, none⟩) hib).trans g2) (by show ib ≠ b; omega))
                      have q1 := (show _ = _ from by rw [HWN.out]; rfl : wr.cell? ⟨gx, ox + m, none⟩ = w13.cell? ⟨gx, ox + m, none⟩).trans HQ1.out
                      clear hx
                      cases fb
                      · cases hf : x.fl
                        · rw [hf] at g2 HFS
                          clear hf
                          by_cases hqm : x.q % 16 = m
                          · have hd1 : ((x.q : Int) % 16 == (m : Int)) = true := by rw [beq_iff_eq]; omega
                            have HQM := Lib.hid hqm
                            clear hqm
                            by_cases hxv : x.v = v
                            · have hd2 : (x.v == v) = true := by rw [hxv]; simp
                              have HF2 := Lib.hid (show fineB (List.take (j + 1) l1) u v m = true from by rw [HFS.out, HQM.out, hxv]; simp)
                              clear hxv HFS
                              go_wp2_with fail
                              go_quiet (fail)
                              go_wp2_with fail
                              go_roundw
                              case rel => exact ⟨j + 1, true, by omega, by go_num, rfl, HF2.out, n2 + nq, by rw [HWN.out, World.drewN_drewN]⟩
                              case measure => simp [intOf]; omega
                            · have hd2 : (x.v == v) = false := by rw [beq_eq_false_iff_ne]; exact hxv
                              have HF2 := Lib.hid (show fineB (List.take (j + 1) l1) u v m = false from by rw [HFS.out, hd2]; simp)
                              clear hxv HFS
                              go_wp2_with fail
                              go_quiet (fail)
                              go_wp2_with fail
                              go_roundw
                              case rel => exact ⟨j + 1, false, by omega, by go_num, rfl, HF2.out, n2 + nq, by rw [HWN.out, World.drewN_drewN]⟩
                              case measure => simp [intOf]; omega
                          · have hd1 : ((x.q : Int) % 16 == (m : Int)) = false := by rw [beq_eq_false_iff_ne]; omega
                            have HF2 := Lib.hid (show fineB (List.take (j + 1) l1) u v m = false from by rw [HFS.out, show (x.q % 16 == m) = false from by rw [beq_eq_false_iff_ne]; exact hqm]; simp)
                            clear hqm HFS
                            go_wp2_with fail
                            go_quiet (fail)
                            go_wp2_with fail
                            go_roundw
                            case rel => exact ⟨j + 1, false, by omega, by go_num, rfl, HF2.out, n2 + nq, by rw [HWN.out, World.drewN_drewN]⟩
                            case measure => simp [intOf]; omega
                        · rw [hf] at g2 HFS
                          have HF2 := Lib.hid (show fineB (List.take (j + 1) l1) u v m = false from by rw [HFS.out]; simp)
                          clear hf HFS
                          go_wp2_with fail
                          go_quiet (fail)
                          go_wp2_with fail
                          go_roundw
                          case rel => exact ⟨j + 1, false, by omega, by go_num, rfl, HF2.out, n2 + nq, by rw [HWN.out, World.drewN_drewN]⟩
                          case measure => simp [intOf]; omega
                      · have HF2 := Lib.hid (show fineB (List.take (j + 1) l1) u v m = true from by rw [HFS.out]; simp)
                        clear HFS
                        go_wp2_with fail
                        go_quiet (fail)
                        go_wp2_with fail
                        go_roundw
                        case rel => exact ⟨j + 1, true, by omega, by go_num, rfl, HF2.out, n2 + nq, by rw [HWN.out, World.drewN_drewN]⟩
                        case measure => simp [intOf]; omega
                    · obtain rfl : j = k2 := by omega
                      obtain rfl : fb = true := by rw [← HFB.out, List.take_of_length_le (by rw [HL1.out]; omega)]; exact HFI.out
                      go_wp2_with fail
                      go_roundw
                      case rel => exact ⟨m + 1, by omega, by go_num, n2, HWN.out⟩
                      case measure => simp [intOf]; omega
                · obtain rfl : m = 16 := by omega
                  go_wp2_with fail
                  refine (works_any _).mono ?_
                  rintro e w16 ⟨rfl, hN⟩
                  go_wp2_with fail
                  go_ret
                  exact ⟨rfl, by have := ((HN6.out.up HU13.out hb).drewN n); rw [← HWN.out] at this; exact (this.trans hN).b⟩

end Go.Proofs.Ytfjobldfdakfpaa
