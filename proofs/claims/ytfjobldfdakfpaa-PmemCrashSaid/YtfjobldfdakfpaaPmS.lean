/-
  THE WALK OF PmemEvicts.
-/
import Derived.Test.YtfjobldfdakfpaaPmQ
namespace Go.Proofs.Ytfjobldfdakfpaa
open Go.RowKit Go.Shelf
set_option linter.unusedVariables false

def evictL (i : Nat) (f : Nat → Wd) : Nat → Wd := if i = 0 then gone (fun _ => evictW) 0 0 (looseL 8 (fun k => (f (0 + k)).loose) 8) f else gone (fun _ => evictW) 8 0 (looseL 8 (fun k => (f (8 + k)).loose) 8) f
theorem evict_any (d b : Nat) (f : Nat → Wd) (i : Nat) (hi : i < 2) (w : World) (h : DevAt w d b f) :
    Calls Try.prog 19 #[.pointer (some ⟨d, 0, none⟩), .int .i64 (i : Int)] w (DevG w d b (evictL i f)) := by
  obtain rfl | rfl : i = 0 ∨ i = 1 := by omega
  · exact evict_0 d b f w h
  · exact evict_1 d b f w h
theorem evictL_at (i : Nat) (hi : i < 2) (f : Nat → Wd) (k : Nat) (hk : k < 16) : evictL i f k = if k / 8 = i ∧ (f k).loose = true then evictW (f k) else f k := by
  unfold evictL
  obtain rfl | rfl : i = 0 ∨ i = 1 := by omega
  · rw [if_pos rfl, gone_loose (fun _ => evictW) evictW 0 8 f (fun _ _ _ => rfl) k]
    by_cases h : (f k).loose = true
    · by_cases h2 : k / 8 = 0
      · rw [if_pos ⟨by omega, by omega, h⟩, if_pos ⟨h2, h⟩]
      · rw [if_neg (fun hh => h2 (by omega)), if_neg (fun hh => h2 hh.1)]
    · rw [if_neg (fun hh => h hh.2.2), if_neg (fun hh => h hh.2)]
  · rw [if_neg (by omega), gone_loose (fun _ => evictW) evictW 8 8 f (fun _ _ _ => rfl) k]
    by_cases h : (f k).loose = true
    · by_cases h2 : k / 8 = 1
      · rw [if_pos ⟨by omega, by omega, h⟩, if_pos ⟨h2, h⟩]
      · rw [if_neg (fun hh => h2 (by omega)), if_neg (fun hh => h2 hh.1)]
    · rw [if_neg (fun hh => h hh.2.2), if_neg (fun hh => h hh.2)]
theorem sound_evict {i : Nat} (hi : i < 2) {f : Nat → Wd} (h : Sound f) : Sound (evictL i f) := by
  intro k hk hl
  rw [evictL_at i hi f k hk] at hl ⊢
  split
  · exact ⟨rfl, rfl⟩
  · rename_i hc
    rw [if_neg hc] at hl; exact h k hk hl
theorem evict_sure {i : Nat} (hi : i < 2) {f : Nat → Wd} (h : Sound f) (k : Nat) (hk : k < 16) : (evictL i f k).sure = if k / 8 = i then (f k).seen else (f k).sure := by
  rw [evictL_at i hi f k hk]
  by_cases h1 : k / 8 = i
  · rw [if_pos h1]
    cases hl : (f k).loose
    · rw [if_neg (by simp)]; exact (h k hk hl).1.symm
    · rw [if_pos ⟨h1, rfl⟩]; rfl
  · rw [if_neg h1, if_neg (fun hh => h1 hh.1)]
theorem evict_seen {i : Nat} (hi : i < 2) (f : Nat → Wd) (k : Nat) (hk : k < 16) : (evictL i f k).seen = (f k).seen := by
  rw [evictL_at i hi f k hk]
  split
  · rfl
  · rfl
theorem evict_tight {i : Nat} (hi : i < 2) (f : Nat → Wd) (k : Nat) (hk : k < 16) (h1 : k / 8 = i) : (evictL i f k).loose = false := by
  rw [evictL_at i hi f k hk]
  cases hl : (f k).loose
  · rw [if_neg (by simp)]; exact hl
  · rw [if_pos ⟨h1, rfl⟩]; rfl
def itE (i : Nat) (f : Nat → Wd) : Nat → Nat → Wd
  | 0 => f
  | k + 1 => evictL i (itE i f k)
theorem itE_sound {i : Nat} (hi : i < 2) {f : Nat → Wd} (h : Sound f) : ∀ k, Sound (itE i f k)
  | 0 => h
  | k + 1 => sound_evict hi (itE_sound hi h k)
theorem itE_seen {i : Nat} (hi : i < 2) (f : Nat → Wd) : ∀ n k, k < 16 → (itE i f n k).seen = (f k).seen
  | 0, k, hk => rfl
  | n + 1, k, hk => (evict_seen hi _ k hk).trans (itE_seen hi f n k hk)
theorem itE_sure {i : Nat} (hi : i < 2) {f : Nat → Wd} (h : Sound f) : ∀ n k, k < 16 → (itE i f (n + 1) k).sure = (evictL i f k).sure
  | 0, k, hk => rfl
  | n + 1, k, hk => by
    show (evictL i (itE i f (n + 1)) k).sure = _
    rw [evict_sure hi (itE_sound hi h (n + 1)) k hk, itE_seen hi f (n + 1) k hk, itE_sure hi h n k hk, evict_sure hi h k hk]
    split <;> rfl
theorem ls_half {i : Nat} (hi : i < 2) (f : Nat → Wd) (h : ∀ k, k < 16 → k / 8 = i → (f k).loose = false) : (lsL f).length ≤ 8 := by
  unfold lsL looseL
  rw [List.take_of_length_le (by simp), ← List.countP_eq_length_filter]
  refine Nat.le_trans (List.countP_mono_left (q := fun x : Fin 16 => decide (x.1 / 8 ≠ i)) ?_) ?_
  · intro x _ hx
    rw [decide_eq_true_eq]
    intro he
    simp only [Nat.zero_add] at hx
    rw [h x.1 x.2 he] at hx
    cases hx
  · obtain rfl | rfl : i = 0 ∨ i = 1 := by omega
    · decide
    · decide
set_option maxHeartbeats 1000000 in
theorem evict_out (d b : Nat) (f : Nat → Wd) (i : Int) (hi : i = 2 ∨ i = -1) (w : World) (h : DevAt w d b f) :
    Calls Try.prog 19 #[.pointer (some ⟨d, 0, none⟩), .int .i64 i] w fun e w' => e = .returned (.int .i64 8) ∧ Nw w w' := by
  have hl : ∀ g, Calls Try.prog 28 #[.pointer (some ⟨d, 0, none⟩), .int .i64 i, .func (.func g) #[] #[]] w fun e w' => e = .returned (.int .i64 8) ∧ Nw w w' := by
    intro g
    have hs := h.s
    clear h
    have hs' : (w.alloc (.cells #[.func (.func g) #[] #[]] 67)).cell? ⟨d, 0, none⟩ = some (.slice (some ⟨b, 0, none⟩) 16 16) := (Nw.refl.alloc _ : Nw w _).b.cell (cell_lt hs).1 |>.trans hs
    rcases hi with rfl | rfl
    all_goals
      go_enter Try.func28, Try.ntmps28
      go_wp2_with fail
      go_ret
      exact ⟨rfl, Nw.refl.alloc _⟩
  have HL := Lib.hid (hl 30)
  clear hl h hi
  go_enter Try.func19, Try.ntmps19
  go_wp2_with fail
  refine HL.out.mono ?_
  rintro e w' ⟨rfl, hn⟩
  go_wp2_with fail
  go_ret
  exact ⟨rfl, hn⟩

theorem OwnU.cells16 {w w' : World} {p : Wd → Int} {f : Nat → Wd} {e : Ending} (h : OwnU w (rowL p f 16) e w') : ∃ g c, e = .returned (.slice (some ⟨g, 0, none⟩) 16 c) ∧ w.heap.size ≤ g ∧ g < w'.heap.size ∧ (∀ j, j < 16 → w'.cell? ⟨g, j, none⟩ = some (.int .u64 (p (f j)))) ∧ (∀ j, w'.frozen? ⟨g, j, none⟩ = false) ∧ Nw w w' := by
  obtain ⟨v, rfl, ho, hn⟩ := h
  have ho2 := ho
  obtain ⟨a, c, rfl, _, hI⟩ := Ints.of_owns ho
  have hlen := rowL_length p f 16
  rcases ho2.2 with ⟨_, h1⟩ | ⟨g, cap, cur, hv, hg, hh, _⟩
  · rw [hlen] at h1; cases h1
  · simp only [Value.slice.injEq] at hv
    obtain ⟨rfl, _, _⟩ := hv
    refine ⟨g, c, by rw [hlen], hg, (Array.getElem?_eq_some_iff.1 hh).1, fun j hj => ?_, fun j => by simp [World.frozen?, hh], hn⟩
    rcases hI with h0 | ⟨b', off, he, _, hc⟩
    · rw [h0] at hlen; cases hlen
    · cases he
      have := hc j (by rw [hlen]; exact hj)
      rw [Nat.zero_add] at this
      rw [this]
      simp [rowL, hj]
theorem ints_of_cells {W : World} {g : Nat} {p : Wd → Int} {f : Nat → Wd} (hg : g < W.heap.size) (h : ∀ j, j < 16 → W.cell? ⟨g, j, none⟩ = some (.int .u64 (p (f j)))) : Ints W.heap.size .u64 W (some ⟨g, 0, none⟩) (rowL p f 16) :=
  .inr ⟨g, 0, rfl, hg, fun j hj => by rw [rowL_length] at hj; rw [Nat.zero_add, h j hj]; simp [rowL, hj]⟩
set_option maxRecDepth 100000 in
set_option maxHeartbeats 8000000 in
theorem walk_evicts (a0 : Option Addr) (len0 cap0 : Nat) (l : List Pt) (hl : l.length = len0) (hok : ∀ x ∈ l, ptOk x) (al : Bool) (w : World) (hI : Recs ptC 3 w.heap.size w a0 l) :
    Calls Try.prog 6 #[.slice a0 len0 cap0, .bool al] w fun e w' => e = .returned (.bool true) ∧ Below w.heap.size w w' := by
  by_cases hbig : 60 < len0
  · clear hok hI hl
    go_enter Try.func6, Try.ntmps6
    go_wp2_with fail
    refine (works_any _).mono ?_
    rintro e w1 ⟨rfl, hN⟩
    go_wp2_with fail
    go_ret
    exact ⟨rfl, hN.b⟩
  have hlen : len0 ≤ 60 := by omega
  go_enter Try.func6, Try.ntmps6
  go_wp2_with fail
  refine (filled_any a0 len0 cap0 l hl hlen hok w hI).mono ?_
  rintro e w1 ⟨d, b, rfl, hD, hN, hb, hd⟩
  have HS := Lib.hid (sound_filled l)
  generalize filledL l = F at *
  have HN1 := Lib.hid hN
  have HD1 := Lib.hid hD
  have hbl := (cell_lt (hD.a.c0 0 (by omega))).1
  have hdl := (cell_lt hD.s).1
  dsimp only at hbl hdl
  have hs0 := hN.b.size
  clear hI hN hD hl hok
  cases al
  · go_wp2_with fail
    refine (seen_any d b F w1 HD1.out).mono ?_
    intro e w2 h
    obtain ⟨gs, cs, rfl, hgs, hgs2, hcs, _, hN⟩ := h.cells16
    have HCS := Lib.hid hcs
    have HD2 := Lib.hid (HD1.out.nw hN)
    have HN2 := Lib.hid (HN1.out.trans hN)
    have hs2 := hN.b.size
    clear h hcs hN
    go_wp2_with fail
    refine (sure_any d b F w2 HD2.out).mono ?_
    intro e w3 h
    obtain ⟨gu, cu, rfl, hgu, hgu2, hcu, hfu, hN⟩ := h.cells16
    have HCS3 := Lib.hid (fun j hj => (hN.b.cell (p := ⟨gs, j, none⟩) hgs2).trans (HCS.out j hj))
    have HCU := Lib.hid hcu
    have HFU := Lib.hid hfu
    have HD3 := Lib.hid (HD2.out.nw hN)
    have HN3 := Lib.hid (HN2.out.trans hN)
    have hs3 := hN.b.size
    clear h hcu hN hfu
    go_wp2_with fail
    go_loopw [10] (fun i wr => ∃ k : Nat, 0 ≤ k ∧ k ≤ 0 + 8 ∧ i = .int .i64 k ∧ Up gu w3 wr ∧ (∀ m, m < 16 → wr.cell? ⟨gu, m, none⟩ = some (.int .u64 (if m / 8 = 0 ∧ m < k then (F m).seen else (F m).sure))) ∧ ∀ j, wr.frozen? ⟨gu, j, none⟩ = false) (fun i _ => 0 + 8 - (intOf i).toNat)
    case atStart => exact ⟨0, by omega, by omega, rfl, Up.refl _ _, fun m hm => by rw [if_neg (by omega)]; exact HCU.out m hm, HFU.out⟩
    case round =>
      obtain ⟨k, hk0, hk1, rfl, hu, hcw, hfw⟩ := hrel
      have HU := Lib.hid hu
      have HCW := Lib.hid hcw
      have HFW := Lib.hid hfw
      by_cases hlt : k < 0 + 8
      · have c1 := hu.cell (HCS3.out k (by omega)) (show gs ≠ gu by omega)
        have c2 := hcw k (by omega)
        have f2 := hfw k
        rw [if_neg (by omega)] at c2
        clear hu hcw hfw
        go_wp2_with fail
        go_roundw
        case rel =>
          refine ⟨k + 1, by omega, by omega, by go_num, HU.out.set _ _, fun m hm => ?_, fun j => by rw [World.frozen?_setCell]; exact HFW.out j⟩
          refine cell_set _ gu _ _ _ _ (HCW.out m hm) _ ?_
          by_cases e : m = k
          · subst e
            rw [if_pos rfl, if_pos ⟨by omega, by omega⟩]
          · rw [if_neg e]
            by_cases e2 : m / 8 = 0 ∧ m < k
            · rw [if_pos e2, if_pos ⟨e2.1, by omega⟩]
            · rw [if_neg e2, if_neg (fun hh => e2 ⟨hh.1, by omega⟩)]
        case measure => simp [intOf]; omega
      · obtain rfl : k = 0 + 8 := by omega
        clear hu hcw hfw
        have HCX : Hid (∀ m, m < 16 → wr.cell? ⟨gu, m, none⟩ = some (.int .u64 (evictL 0 F m).sure)) := fun m hm => by
          rw [HCW.out m hm, evict_sure (by omega) HS.out m hm]
          by_cases e : m / 8 = 0
          · rw [if_pos ⟨e, by omega⟩, if_pos e]
          · rw [if_neg (fun hh => e hh.1), if_neg e]
        have hs4 := HU.out.size
        have HIS4 := Lib.hid (ints_of_cells (W := wr) (g := gs) (p := (·.seen)) (f := F) (by omega) (fun j hj => HU.out.cell (HCS3.out j hj) (show gs ≠ gu by omega)))
        have HIU4 := Lib.hid (ints_of_cells (W := wr) (g := gu) (p := (·.sure)) (f := evictL 0 F) (by omega) HCX.out)
        have HD4 := Lib.hid (HD3.out.up HU.out (by omega) (by omega))
        have HN4 := Lib.hid (HN3.out.up HU.out (by omega))
        clear HCW HFW HFU HCU HCX HCS HCS3
        have hw4 : ∃ w4, w4 = wr := ⟨_, rfl⟩
        obtain ⟨w4, rfl⟩ := hw4
        rw [show ((0 + 8 : Nat) : Int) = 8 from rfl]
        go_wp2_with fail
        go_loopw [11] (fun i wq => ∃ k : Nat, k ≤ 2 ∧ i = .int .i64 k ∧ DevAt wq d b (itE 0 F k) ∧ Up b w4 wq) (fun i _ => 2 - (intOf i).toNat)
        case atStart => exact ⟨0, by omega, rfl, HD4.out, Up.refl _ _⟩
        case round =>
          obtain ⟨k, hk, rfl, hD, hu⟩ := hrel
          have HDk := Lib.hid hD
          have HUk := Lib.hid hu
          have hszk := hu.size
          clear hD hu
          by_cases hlt : k < 2
          · go_wp2_with fail
            refine (evict_any d b _ 0 (by omega) _ HDk.out).mono ?_
            rintro e w5 ⟨rfl, hD, hu⟩
            have HD5 := Lib.hid hD
            have HU5 := Lib.hid (HUk.out.trans hu)
            have HIS5 := Lib.hid ((ints_upx HU5.out (fun p hp => by cases hp; show gs ≠ b; omega) HIS4.out).mono HU5.out.size)
            have HIU5 := Lib.hid ((ints_upx HU5.out (fun p hp => by cases hp; show gu ≠ b; omega) HIU4.out).mono HU5.out.size)
            clear hD hu
            go_wp2_with fail
            refine (sure_any d b _ w5 HD5.out).mono ?_
            intro e w6 h
            obtain ⟨ax, cx, rfl, _, hIx, hN⟩ := h.row16 (rowL_length _ _ _)
            have HIX := Lib.hid hIx
            have HN6 := Lib.hid hN
            clear h hIx hN
            go_wp2_with fail
            refine (same_yes _ _ _ _ _ _ (rowL_length _ _ _) (rowL_congr (p := (·.sure)) (q := (·.sure)) fun m hm => itE_sure (by omega) HS.out k m hm) _ HIX.out (HIU5.out.nw (n := 0) HN6.out)).mono ?_
            rintro e w7 ⟨rfl, hN⟩
            have HN7 := Lib.hid (HN6.out.trans hN)
            clear hN HIX
            go_wp2_with fail
            refine (seen_any d b _ w7 (HD5.out.nw HN7.out)).mono ?_
            intro e w8 h
            obtain ⟨ax, cx, rfl, _, hIx, hN⟩ := h.row16 (rowL_length _ _ _)
            have HIX := Lib.hid hIx
            have HN8 := Lib.hid (HN7.out.trans hN)
            clear h hIx hN
            go_wp2_with fail
            refine (same_yes _ _ _ _ _ _ (rowL_length _ _ _) (rowL_congr (p := (·.seen)) (q := (·.seen)) fun m hm => itE_seen (by omega) F (k + 1) m hm) _ HIX.out (HIS5.out.nw (n := 0) HN8.out)).mono ?_
            rintro e w9 ⟨rfl, hN⟩
            have HN9 := Lib.hid (HN8.out.trans hN)
            clear hN HIX
            go_wp2_with fail
            go_roundw
            case rel => exact ⟨k + 1, by omega, by go_num, HD5.out.nw HN9.out, HU5.out.nw HN9.out⟩
            case measure => simp [intOf]; omega
          · obtain rfl : k = 2 := by omega
            have HNk := Lib.hid (HN4.out.up HUk.out (by omega))
            go_wp2_with fail
            refine (loose_any d b _ _ HDk.out).mono ?_
            have h8 := ls_half (i := 0) (by omega) (itE 0 F 2) (fun m hm h => evict_tight (by omega) _ m hm h)
            generalize (lsL (itE 0 F 2)).length = NL at *
            rintro e w5 ⟨rfl, hN⟩
            have HN5 := Lib.hid (HNk.out.trans hN)
            have HD5 := Lib.hid (HDk.out.nw hN)
            clear hN
            go_wp2_with fail
            refine (evict_out d b _ 2 (.inl rfl) _ HD5.out).mono ?_
            rintro e w6 ⟨rfl, hN⟩
            have HN6 := Lib.hid (HN5.out.trans hN)
            have HD6 := Lib.hid (HD5.out.nw hN)
            clear hN
            go_wp2_with fail
            refine (evict_out d b _ (-1) (.inr rfl) _ HD6.out).mono ?_
            rintro e w7 ⟨rfl, hN⟩
            have HN7 := Lib.hid (HN6.out.trans hN)
            clear hN
            go_wp2_with fail
            refine (works_any _).mono ?_
            rintro e w8 ⟨rfl, hN⟩
            have HN8 := Lib.hid (HN7.out.trans hN)
            clear hN
            go_wp2_with fail
            go_ret
            exact ⟨rfl, HN8.out.b⟩
  · go_wp2_with fail
    refine (seen_any d b F w1 HD1.out).mono ?_
    intro e w2 h
    obtain ⟨gs, cs, rfl, hgs, hgs2, hcs, _, hN⟩ := h.cells16
    have HCS := Lib.hid hcs
    have HD2 := Lib.hid (HD1.out.nw hN)
    have HN2 := Lib.hid (HN1.out.trans hN)
    have hs2 := hN.b.size
    clear h hcs hN
    go_wp2_with fail
    refine (sure_any d b F w2 HD2.out).mono ?_
    intro e w3 h
    obtain ⟨gu, cu, rfl, hgu, hgu2, hcu, hfu, hN⟩ := h.cells16
    have HCS3 := Lib.hid (fun j hj => (hN.b.cell (p := ⟨gs, j, none⟩) hgs2).trans (HCS.out j hj))
    have HCU := Lib.hid hcu
    have HFU := Lib.hid hfu
    have HD3 := Lib.hid (HD2.out.nw hN)
    have HN3 := Lib.hid (HN2.out.trans hN)
    have hs3 := hN.b.size
    clear h hcu hN hfu
    go_wp2_with fail
    go_loopw [10] (fun i wr => ∃ k : Nat, 8 ≤ k ∧ k ≤ 8 + 8 ∧ i = .int .i64 k ∧ Up gu w3 wr ∧ (∀ m, m < 16 → wr.cell? ⟨gu, m, none⟩ = some (.int .u64 (if m / 8 = 1 ∧ m < k then (F m).seen else (F m).sure))) ∧ ∀ j, wr.frozen? ⟨gu, j, none⟩ = false) (fun i _ => 8 + 8 - (intOf i).toNat)
    case atStart => exact ⟨8, by omega, by omega, rfl, Up.refl _ _, fun m hm => by rw [if_neg (by omega)]; exact HCU.out m hm, HFU.out⟩
    case round =>
      obtain ⟨k, hk0, hk1, rfl, hu, hcw, hfw⟩ := hrel
      have HU := Lib.hid hu
      have HCW := Lib.hid hcw
      have HFW := Lib.hid hfw
      by_cases hlt : k < 8 + 8
      · have c1 := hu.cell (HCS3.out k (by omega)) (show gs ≠ gu by omega)
        have c2 := hcw k (by omega)
        have f2 := hfw k
        rw [if_neg (by omega)] at c2
        clear hu hcw hfw
        go_wp2_with fail
        go_roundw
        case rel =>
          refine ⟨k + 1, by omega, by omega, by go_num, HU.out.set _ _, fun m hm => ?_, fun j => by rw [World.frozen?_setCell]; exact HFW.out j⟩
          refine cell_set _ gu _ _ _ _ (HCW.out m hm) _ ?_
          by_cases e : m = k
          · subst e
            rw [if_pos rfl, if_pos ⟨by omega, by omega⟩]
          · rw [if_neg e]
            by_cases e2 : m / 8 = 1 ∧ m < k
            · rw [if_pos e2, if_pos ⟨e2.1, by omega⟩]
            · rw [if_neg e2, if_neg (fun hh => e2 ⟨hh.1, by omega⟩)]
        case measure => simp [intOf]; omega
      · obtain rfl : k = 8 + 8 := by omega
        clear hu hcw hfw
        have HCX : Hid (∀ m, m < 16 → wr.cell? ⟨gu, m, none⟩ = some (.int .u64 (evictL 1 F m).sure)) := fun m hm => by
          rw [HCW.out m hm, evict_sure (by omega) HS.out m hm]
          by_cases e : m / 8 = 1
          · rw [if_pos ⟨e, by omega⟩, if_pos e]
          · rw [if_neg (fun hh => e hh.1), if_neg e]
        have hs4 := HU.out.size
        have HIS4 := Lib.hid (ints_of_cells (W := wr) (g := gs) (p := (·.seen)) (f := F) (by omega) (fun j hj => HU.out.cell (HCS3.out j hj) (show gs ≠ gu by omega)))
        have HIU4 := Lib.hid (ints_of_cells (W := wr) (g := gu) (p := (·.sure)) (f := evictL 1 F) (by omega) HCX.out)
        have HD4 := Lib.hid (HD3.out.up HU.out (by omega) (by omega))
        have HN4 := Lib.hid (HN3.out.up HU.out (by omega))
        clear HCW HFW HFU HCU HCX HCS HCS3
        have hw4 : ∃ w4, w4 = wr := ⟨_, rfl⟩
        obtain ⟨w4, rfl⟩ := hw4
        rw [show ((8 + 8 : Nat) : Int) = 16 from rfl]
        go_wp2_with fail
        go_loopw [11] (fun i wq => ∃ k : Nat, k ≤ 2 ∧ i = .int .i64 k ∧ DevAt wq d b (itE 1 F k) ∧ Up b w4 wq) (fun i _ => 2 - (intOf i).toNat)
        case atStart => exact ⟨0, by omega, rfl, HD4.out, Up.refl _ _⟩
        case round =>
          obtain ⟨k, hk, rfl, hD, hu⟩ := hrel
          have HDk := Lib.hid hD
          have HUk := Lib.hid hu
          have hszk := hu.size
          clear hD hu
          by_cases hlt : k < 2
          · go_wp2_with fail
            refine (evict_any d b _ 1 (by omega) _ HDk.out).mono ?_
            rintro e w5 ⟨rfl, hD, hu⟩
            have HD5 := Lib.hid hD
            have HU5 := Lib.hid (HUk.out.trans hu)
            have HIS5 := Lib.hid ((ints_upx HU5.out (fun p hp => by cases hp; show gs ≠ b; omega) HIS4.out).mono HU5.out.size)
            have HIU5 := Lib.hid ((ints_upx HU5.out (fun p hp => by cases hp; show gu ≠ b; omega) HIU4.out).mono HU5.out.size)
            clear hD hu
            go_wp2_with fail
            refine (sure_any d b _ w5 HD5.out).mono ?_
            intro e w6 h
            obtain ⟨ax, cx, rfl, _, hIx, hN⟩ := h.row16 (rowL_length _ _ _)
            have HIX := Lib.hid hIx
            have HN6 := Lib.hid hN
            clear h hIx hN
            go_wp2_with fail
            refine (same_yes _ _ _ _ _ _ (rowL_length _ _ _) (rowL_congr (p := (·.sure)) (q := (·.sure)) fun m hm => itE_sure (by omega) HS.out k m hm) _ HIX.out (HIU5.out.nw (n := 0) HN6.out)).mono ?_
            rintro e w7 ⟨rfl, hN⟩
            have HN7 := Lib.hid (HN6.out.trans hN)
            clear hN HIX
            go_wp2_with fail
            refine (seen_any d b _ w7 (HD5.out.nw HN7.out)).mono ?_
            intro e w8 h
            obtain ⟨ax, cx, rfl, _, hIx, hN⟩ := h.row16 (rowL_length _ _ _)
            have HIX := Lib.hid hIx
            have HN8 := Lib.hid (HN7.out.trans hN)
            clear h hIx hN
            go_wp2_with fail
            refine (same_yes _ _ _ _ _ _ (rowL_length _ _ _) (rowL_congr (p := (·.seen)) (q := (·.seen)) fun m hm => itE_seen (by omega) F (k + 1) m hm) _ HIX.out (HIS5.out.nw (n := 0) HN8.out)).mono ?_
            rintro e w9 ⟨rfl, hN⟩
            have HN9 := Lib.hid (HN8.out.trans hN)
            clear hN HIX
            go_wp2_with fail
            go_roundw
            case rel => exact ⟨k + 1, by omega, by go_num, HD5.out.nw HN9.out, HU5.out.nw HN9.out⟩
            case measure => simp [intOf]; omega
          · obtain rfl : k = 2 := by omega
            have HNk := Lib.hid (HN4.out.up HUk.out (by omega))
            go_wp2_with fail
            refine (loose_any d b _ _ HDk.out).mono ?_
            have h8 := ls_half (i := 1) (by omega) (itE 1 F 2) (fun m hm h => evict_tight (by omega) _ m hm h)
            generalize (lsL (itE 1 F 2)).length = NL at *
            rintro e w5 ⟨rfl, hN⟩
            have HN5 := Lib.hid (HNk.out.trans hN)
            have HD5 := Lib.hid (HDk.out.nw hN)
            clear hN
            go_wp2_with fail
            refine (evict_out d b _ 2 (.inl rfl) _ HD5.out).mono ?_
            rintro e w6 ⟨rfl, hN⟩
            have HN6 := Lib.hid (HN5.out.trans hN)
            have HD6 := Lib.hid (HD5.out.nw hN)
            clear hN
            go_wp2_with fail
            refine (evict_out d b _ (-1) (.inr rfl) _ HD6.out).mono ?_
            rintro e w7 ⟨rfl, hN⟩
            have HN7 := Lib.hid (HN6.out.trans hN)
            clear hN
            go_wp2_with fail
            refine (works_any _).mono ?_
            rintro e w8 ⟨rfl, hN⟩
            have HN8 := Lib.hid (HN7.out.trans hN)
            clear hN
            go_wp2_with fail
            go_ret
            exact ⟨rfl, HN8.out.b⟩

end Go.Proofs.Ytfjobldfdakfpaa
