/-
  THE WALK OF PmemFenced.
-/
import Derived.Test.YtfjobldfdakfpaaPmU
namespace Go.Proofs.Ytfjobldfdakfpaa
open Go.RowKit Go.Shelf
set_option linter.unusedVariables false

def mkU : Array Value := madeCells (Value.int .u64 0).cells ((16 : Int).toNat * 1)
theorem mkU_get (j : Nat) (hj : j < 16) : mkU[j]? = some (.int .u64 0) := by
  unfold mkU madeCells
  simp [Value.cells, hj, Nat.mod_one]
theorem made_u64 (w : World) : (Instr.makeSlice 29 (.int .i64 16) (.int .i64 16)).run Try.prog w = .ok (.slice (some ⟨w.heap.size, 0, none⟩) 16 16) (w.alloc (.cells mkU 31)) := by
  obtain ⟨i0, hi, hz0, hz1, hz2⟩ := info_parts8 info_u64
  have hmk := run_make (P := Try.prog) w 29 31 i0 _ Try.underlying29 hi hz0 .i64 .i64 16 16 (by omega) (by omega) (by rw [hz2]; decide) (by decide)
  rw [hz1] at hmk
  exact hmk
theorem cell_new (w : World) (cs : Array Value) (t : TypeId) (j : Nat) (v : Value) (h : cs[j]? = some v) : (w.alloc (.cells cs t)).cell? ⟨w.heap.size, j, none⟩ = some v := by rw [World.cell?_alloc_new]; exact h
theorem tri_new (w : World) (t : TypeId) : Tri (((w.alloc (.cells mkU 31)).alloc (.cells mkU 31)).alloc (.cells (#[.bool false, .bool false, .bool false, .bool false, .bool false, .bool false, .bool false, .bool false, .bool false, .bool false, .bool false, .bool false, .bool false, .bool false, .bool false, .bool false] : Array Value) t)) w.heap.size (w.heap.size + 1) (w.heap.size + 1 + 1) (fun _ => 0) (fun _ => 0) (fun _ => false) := by
  have n2 : Nw (w.alloc (.cells mkU 31)) (((w.alloc (.cells mkU 31)).alloc (.cells mkU 31)).alloc (.cells (#[.bool false, .bool false, .bool false, .bool false, .bool false, .bool false, .bool false, .bool false, .bool false, .bool false, .bool false, .bool false, .bool false, .bool false, .bool false, .bool false] : Array Value) t)) := (Nw.refl.alloc _).alloc _
  have n1 : Nw ((w.alloc (.cells mkU 31)).alloc (.cells mkU 31)) (((w.alloc (.cells mkU 31)).alloc (.cells mkU 31)).alloc (.cells (#[.bool false, .bool false, .bool false, .bool false, .bool false, .bool false, .bool false, .bool false, .bool false, .bool false, .bool false, .bool false, .bool false, .bool false, .bool false, .bool false] : Array Value) t)) := Nw.refl.alloc _
  refine ⟨fun m hm => ?_, fun m hm => ?_, fun m hm => ?_, fun j => by simp [go_sem], fun j => by simp [go_sem], fun j => by simp [go_sem]⟩
  · exact (n2.b.cell (p := ⟨w.heap.size, m, none⟩) (by simp)).trans (cell_new _ _ _ _ _ (mkU_get m hm))
  · have := cell_new (w.alloc (.cells mkU 31)) mkU 31 m _ (mkU_get m hm)
    rw [World.size_alloc] at this
    exact (n1.b.cell (p := ⟨w.heap.size + 1, m, none⟩) (by simp)).trans this
  · have := cell_new ((w.alloc (.cells mkU 31)).alloc (.cells mkU 31)) (#[.bool false, .bool false, .bool false, .bool false, .bool false, .bool false, .bool false, .bool false, .bool false, .bool false, .bool false, .bool false, .bool false, .bool false, .bool false, .bool false] : Array Value) t m (.bool false) (by
      have he : (#[.bool false, .bool false, .bool false, .bool false, .bool false, .bool false, .bool false, .bool false, .bool false, .bool false, .bool false, .bool false, .bool false, .bool false, .bool false, .bool false] : Array Value) = (List.replicate 16 (Value.bool false)).toArray := rfl
      rw [he, List.getElem?_toArray, List.getElem?_replicate, if_pos hm])
    simpa using this
set_option maxRecDepth 100000 in
set_option maxHeartbeats 8000000 in
theorem walk_fenced (a0 : Option Addr) (len0 cap0 : Nat) (l : List Pt) (hl : l.length = len0) (hok : ∀ x ∈ l, ptOk x) (w : World) (hI : Recs ptC 3 w.heap.size w a0 l) :
    Calls Try.prog 3 #[.slice a0 len0 cap0] w fun e w' => e = .returned (.bool true) ∧ Below w.heap.size w w' := by
  by_cases hbig : 60 < len0
  · clear hok hI hl
    go_enter Try.func3, Try.ntmps3
    go_wp2_with fail
    refine (works_any _).mono ?_
    rintro e w1 ⟨rfl, hN⟩
    go_wp2_with fail
    go_ret
    exact ⟨rfl, hN.b⟩
  have hlen : len0 ≤ 60 := by omega
  go_enter Try.func3, Try.ntmps3
  go_wp2_with fail
  refine (filled_any a0 len0 cap0 l hl hlen hok w hI).mono ?_
  rintro e w1 ⟨d, b, rfl, hD, hN, hb, hd⟩
  have HS := Lib.hid (sound_filled l)
  have HFD := Lib.hid (fed_filled l)
  have HN1 := Lib.hid hN
  have HD1 := Lib.hid hD
  have hs0 := hN.b.size
  have HI := Lib.hid hI
  have HOK := Lib.hid hok
  have HL := Lib.hid hl
  clear hN hD hI hok hl
  go_wp2_with fail
  refine (fence_any d b _ w1 HD1.out).mono ?_
  rintro e w2 ⟨rfl, hD, hu⟩
  have hbl := (cell_lt (hD.a.c0 0 (by omega))).1
  have hdl := (cell_lt hD.s).1
  dsimp only at hbl hdl
  have HG1 := Lib.hid (fence_at HS.out HFD.out)
  have HG2 := Lib.hid (fence_sound HS.out HFD.out)
  have HG3 := Lib.hid (fence_count HS.out HFD.out)
  generalize gone (fun _ => fenceW) 0 0 (lsL (filledL l)) (filledL l) = G at *
  have HN2 := Lib.hid (HN1.out.up hu hb)
  have HD2 := Lib.hid hD
  have hs2 := HN2.out.b.size
  clear hD hu HN1 HD1
  have hm1 := made_u64 w2
  have hm2 := made_u64 (w2.alloc (.cells mkU 31))
  go_wp2_with fail
  clear hm1 hm2
  have HT0 := Lib.hid (tri_new w2 30)
  have hN3 : Nw w2 (((w2.alloc (.cells mkU 31)).alloc (.cells mkU 31)).alloc (.cells (#[.bool false, .bool false, .bool false, .bool false, .bool false, .bool false, .bool false, .bool false, .bool false, .bool false, .bool false, .bool false, .bool false, .bool false, .bool false, .bool false] : Array Value) 30)) := ((Nw.refl.alloc _).alloc _).alloc _
  generalize hW3 : ((w2.alloc (.cells mkU 31)).alloc (.cells mkU 31)).alloc _ = W3 at *
  have HN3 := Lib.hid hN3
  clear hN3 hW3
  go_loopw [8] (fun i wr => ∃ k : Nat, k ≤ l.length ∧ i = .int .i64 k ∧ Nw w2 wr ∧ Tri wr w2.heap.size (w2.heap.size + 1) (w2.heap.size + 1 + 1) (fun m => keptV (filledL (l.take k) m)) (fun m => (filledL (l.take k) m).seen) (fun m => (filledL (l.take k) m).again)) (fun i _ => l.length - (intOf i).toNat)
  case atStart => exact ⟨0, Nat.zero_le _, rfl, HN3.out, HT0.out⟩
  case round =>
    obtain ⟨k, hk, rfl, hn, ht⟩ := hrel
    have HN := Lib.hid hn
    have HT := Lib.hid ht
    have hlc := HL.out
    clear hn ht
    by_cases hlt : k < l.length
    · obtain ⟨ib, io, rfl, hib, g0, g1, g2⟩ := puts_at HI.out hlt
      have HSU := Lib.hid (filledL_succ l k hlt)
      have HSk := Lib.hid (sound_filled (l.take k))
      have HFk := Lib.hid (fed_filled (l.take k))
      obtain ⟨x, hx⟩ : ∃ x, l[k] = x := ⟨_, rfl⟩
      obtain ⟨hq8, _, _⟩ := HOK.out _ (List.getElem_mem hlt)
      rw [hx] at g0 g1 g2 HSU hq8
      have hb2 := (HN2.out.trans HN.out).b
      replace g0 := (hb2.cell (p := ⟨ib, io + k * 3, none⟩) hib).trans g0
      replace g1 := (hb2.cell (p := ⟨ib, io + k * 3 + 1, none⟩) hib).trans g1
      replace g2 := (hb2.cell (p := ⟨ib, io + k * 3 + 2, none⟩) hib).trans g2
      clear hx hb2
      generalize filledL (l.take k) = F at *
      cases hf : x.fl
      · rw [hf] at g2
        have HFL := Lib.hid hf
        have cv := HT.out.v (x.q % 16) (by omega)
        have ca := HT.out.a (x.q % 16) (by omega)
        have fv := HT.out.fv (x.q % 16)
        have fa := HT.out.fa (x.q % 16)
        clear hf
        go_wp2_with fail
        go_roundw
        case rel =>
          refine ⟨k + 1, by omega, by go_num, ⟨(HN.out.b.setCell (p := ⟨w2.heap.size + 1, x.q % 16, none⟩) (by show _ ≤ w2.heap.size + 1; omega) _).setCell (p := ⟨w2.heap.size + 1 + 1, x.q % 16, none⟩) (by show _ ≤ w2.heap.size + 1 + 1; omega) _⟩, ?_⟩
          rw [HSU.out]
          refine ((HT.out.setV (by omega) (by omega) (x.q % 16) x.v).setA (by omega) (by omega) (x.q % 16) true).congr (fun m hm => ?_) (fun m hm => ?_) (fun m hm => ?_)
          · rw [put_store HFL.out]; split
            · rw [kept_store]
            · rfl
          · rw [put_store HFL.out]; split <;> rfl
          · rw [put_store HFL.out]; split <;> rfl
        case measure => simp [intOf]; omega
      · rw [hf] at g2
        have HFL := Lib.hid hf
        clear hf
        go_wp2_with fail
        have HK1 := Lib.hid (kept_put_flush HSk.out HFL.out)
        have HK2 := Lib.hid (again_put_flush HFk.out HFL.out)
        have HK3 := Lib.hid (fun m hm => seen_put_flush (f := F) HFL.out m hm)
        obtain ⟨A, hA⟩ : ∃ A, x.q % 16 = A := ⟨_, rfl⟩
        have hA16 : A < 16 := by omega
        rw [hA] at HK1 HK2
        rw [show ((x.q : Int) % 16) = (A : Int) from by omega, show ((A : Int) / 8 * 8) = ((8 * (A / 8) : Nat) : Int) from by omega]
        go_loopw [10] (fun i wq => ∃ j : Nat, 8 * (A / 8) ≤ j ∧ j ≤ 8 * (A / 8) + 8 ∧ i = .int .i64 j ∧ Nw w2 wq ∧ Tri wq w2.heap.size (w2.heap.size + 1) (w2.heap.size + 1 + 1) (fun m => if m / 8 = A / 8 ∧ m < j then (F m).seen else keptV (F m)) (fun m => (F m).seen) (fun m => if m / 8 = A / 8 ∧ m < j then false else (F m).again)) (fun i _ => 8 * (A / 8) + 8 - (intOf i).toNat)
        case atStart => exact ⟨_, Nat.le_refl _, by omega, rfl, HN.out, HT.out.congr (fun m hm => by rw [if_neg (by omega)]) (fun m hm => rfl) (fun m hm => by rw [if_neg (by omega)])⟩
        case round =>
          clear HN HT g0 g1 g2
          obtain ⟨j, hj0, hj1, rfl, hn, ht⟩ := hrel
          have HN := Lib.hid hn
          have HT := Lib.hid ht
          clear hn ht
          by_cases hjl : j < 8 * (A / 8) + 8
          · have cv := HT.out.v j (by omega)
            have ck := HT.out.k j (by omega)
            have ca := HT.out.a j (by omega)
            have fk := HT.out.fk j
            have fa := HT.out.fa j
            go_wp2_with fail
            go_roundw
            case rel =>
              refine ⟨j + 1, by omega, by omega, by go_num, ⟨(HN.out.b.setCell (p := ⟨w2.heap.size, j, none⟩) (Nat.le_refl _) _).setCell (p := ⟨w2.heap.size + 1 + 1, j, none⟩) (by show _ ≤ w2.heap.size + 1 + 1; omega) _⟩, ?_⟩
              refine ((HT.out.setK (by omega) (by omega) j (F j).seen).setA (by omega) (by omega) j false).congr (fun m hm => ?_) (fun m hm => rfl) (fun m hm => ?_)
              · by_cases e : m = j
                · subst e; rw [if_pos rfl, if_pos ⟨by omega, by omega⟩]
                · rw [if_neg e]
                  by_cases e2 : m / 8 = A / 8 ∧ m < j
                  · rw [if_pos e2, if_pos ⟨e2.1, by omega⟩]
                  · rw [if_neg e2, if_neg (fun hh => e2 ⟨hh.1, by omega⟩)]
              · by_cases e : m = j
                · subst e; rw [if_pos rfl, if_pos ⟨by omega, by omega⟩]
                · rw [if_neg e]
                  by_cases e2 : m / 8 = A / 8 ∧ m < j
                  · rw [if_pos e2, if_pos ⟨e2.1, by omega⟩]
                  · rw [if_neg e2, if_neg (fun hh => e2 ⟨hh.1, by omega⟩)]
            case measure => simp [intOf]; omega
          · obtain rfl : j = 8 * (A / 8) + 8 := by omega
            go_wp2_with fail
            go_roundw
            case rel =>
              refine ⟨k + 1, by omega, by go_num, HN.out, ?_⟩
              rw [HSU.out]
              refine HT.out.congr (fun m hm => ?_) (fun m hm => (HK3.out m hm).symm) (fun m hm => ?_)
              · rw [HK1.out m hm]
                by_cases e : m / 8 = A / 8
                · rw [if_pos e, if_pos ⟨e, by omega⟩]
                · rw [if_neg e, if_neg (fun hh => e hh.1)]
              · rw [HK2.out m hm]
                by_cases e : m / 8 = A / 8
                · rw [if_pos e, if_pos ⟨e, by omega⟩]
                · rw [if_neg e, if_neg (fun hh => e hh.1)]
            case measure => simp [intOf]; omega
    · obtain rfl : k = l.length := by omega
      have ht := HT.out
      rw [List.take_length] at ht
      have HT2 := Lib.hid ht
      clear HT ht
      go_wp2_with fail
      go_loopw [12, 11] (fun i c wq => ∃ m : Nat, m ≤ 16 ∧ i = .int .i64 m ∧ c = .int .i64 ((looseL 16 (fun q => (filledL l q).again) m).length : Nat) ∧ wq = wr) (fun i _ _ => 16 - (intOf i).toNat)
      case atStart => exact ⟨0, Nat.zero_le _, rfl, by rw [looseL_zero]; rfl, rfl⟩
      case round =>
        obtain ⟨m, hm, rfl, rfl, rfl⟩ := hrel
        by_cases hml : m < 16
        · have ca := HT2.out.a m hml
          have HLS := Lib.hid (looseL_succ (fl := fun q => (filledL l q).again) hml)
          cases hag : (filledL l m).again
          · rw [hag] at ca
            have HAG := Lib.hid hag
            clear hag
            go_wp2_with fail
            go_roundw
            case rel => exact ⟨m + 1, by omega, by go_num, by rw [HLS.out, if_neg (by show ¬ ((filledL l m).again = true); rw [HAG.out]; simp)], trivial⟩
            case measure => simp [intOf]; omega
          · rw [hag] at ca
            have HAG := Lib.hid hag
            clear hag
            go_wp2_with fail
            go_roundw
            case rel => exact ⟨m + 1, by omega, by go_num, by have hle := looseL_length (m := 16) (fl := fun q => (filledL l q).again) (k := m); rw [HLS.out, if_pos HAG.out, List.length_append, List.length_singleton]; generalize (looseL 16 (fun q => (filledL l q).again) m).length = nn at hle ⊢; have hw : wrap64 ((nn : Int) + 1) = (nn : Int) + 1 := (by unfold wrap64; omega); first | (rw [hw]; rfl) | (simp only [hw]; rfl) | rfl, trivial⟩
            case measure => simp [intOf]; omega
        · obtain rfl : m = 16 := by omega
          have HD3 := Lib.hid (HD2.out.nw HN.out)
          have HN4 := Lib.hid (HN2.out.trans HN.out)
          have hsz := HN.out.b.size
          have hgk := (cell_lt (HT2.out.k 0 (by omega))).1
          have hgv := (cell_lt (HT2.out.v 0 (by omega))).1
          dsimp only at hgk hgv
          have HV := Lib.hid (ints_of_cells (p := (·.seen)) (f := filledL l) hgv HT2.out.v)
          have HK := Lib.hid (ints_of_cells (p := keptV) (f := filledL l) hgk HT2.out.k)
          have HE1 := Lib.hid (show rowL (·.seen) G 16 = rowL (·.seen) (filledL l) 16 from rowL_congr fun m hm => by rw [HG1.out m hm, fenceW_seen])
          have HE2 := Lib.hid (show rowL (·.sure) G 16 = rowL keptV (filledL l) 16 from rowL_congr fun m hm => by rw [HG1.out m hm]; rfl)
          have HG4 := Lib.hid (crash_none HG2.out)
          go_wp2_with fail
          refine (loose_any d b G _ HD3.out).mono ?_
          rw [HG3.out]
          rintro e w5 ⟨rfl, hN⟩
          have HN5 := Lib.hid hN
          clear hN
          go_wp2_with fail
          refine (seen_any d b G w5 (HD3.out.nw HN5.out)).mono ?_
          intro e w6 h
          obtain ⟨ax, cx, rfl, _, hIx, hN⟩ := h.row16 (rowL_length _ _ _)
          have HIX := Lib.hid hIx
          have HN6 := Lib.hid (HN5.out.trans hN)
          clear h hIx hN
          go_wp2_with fail
          refine (same_yes _ _ _ _ _ _ (rowL_length _ _ _) HE1.out _ HIX.out (HV.out.nw (n := 0) HN6.out)).mono ?_
          rintro e w7 ⟨rfl, hN⟩
          have HN7 := Lib.hid (HN6.out.trans hN)
          clear hN HIX
          go_wp2_with fail
          refine (sure_any d b G w7 (HD3.out.nw HN7.out)).mono ?_
          intro e w8 h
          obtain ⟨ax, cx, rfl, _, hIx, hN⟩ := h.row16 (rowL_length _ _ _)
          have HIX := Lib.hid hIx
          have HN8 := Lib.hid (HN7.out.trans hN)
          clear h hIx hN
          go_wp2_with fail
          refine (same_yes _ _ _ _ _ _ (rowL_length _ _ _) HE2.out _ HIX.out (HK.out.nw (n := 0) HN8.out)).mono ?_
          rintro e w9 ⟨rfl, hN⟩
          have HN9 := Lib.hid (HN8.out.trans hN)
          clear hN HIX
          go_wp2_with fail
          refine (crash_any d b G w9.heap.size none 0 0 [] rfl (Nat.zero_le _) (by decide) (by decide) w9 (by omega) (fun p hp => by cases hp) (.inl rfl) (HD3.out.nw HN9.out)).mono ?_
          rintro e w10 ⟨rfl, hD, hu⟩
          have HK10 := Lib.hid ((ints_upx hu (fun p hp => by cases hp; show w2.heap.size ≠ b; omega) (HK.out.nw (n := 0) HN9.out)).mono hu.size)
          have HN10 := Lib.hid ((HN4.out.trans HN9.out).up hu hb)
          generalize gone (crashW []) 0 0 (lsL G) G = H at *
          have HD10 := Lib.hid hD
          clear hD hu
          go_wp2_with fail
          refine (seen_any d b H w10 HD10.out).mono ?_
          intro e w11 h
          obtain ⟨ax, cx, rfl, _, hIx, hN⟩ := h.row16 (rowL_length _ _ _)
          have HIX := Lib.hid hIx
          have HN11 := Lib.hid hN
          clear h hIx hN
          go_wp2_with fail
          refine (same_yes _ _ _ _ _ _ (rowL_length _ _ _) ((rowL_congr (p := (·.seen)) (q := (·.sure)) fun m hm => (HG4.out m hm).2.1).trans HE2.out) _ HIX.out (HK10.out.nw (n := 0) HN11.out)).mono ?_
          rintro e w12 ⟨rfl, hN⟩
          have HN12 := Lib.hid (HN11.out.trans hN)
          clear hN HIX
          go_wp2_with fail
          refine (sure_any d b H w12 (HD10.out.nw HN12.out)).mono ?_
          intro e w13 h
          obtain ⟨ax, cx, rfl, _, hIx, hN⟩ := h.row16 (rowL_length _ _ _)
          have HIX := Lib.hid hIx
          have HN13 := Lib.hid (HN12.out.trans hN)
          clear h hIx hN
          go_wp2_with fail
          refine (same_yes _ _ _ _ _ _ (rowL_length _ _ _) ((rowL_congr (p := (·.sure)) (q := (·.sure)) fun m hm => (HG4.out m hm).1).trans HE2.out) _ HIX.out (HK10.out.nw (n := 0) HN13.out)).mono ?_
          rintro e w14 ⟨rfl, hN⟩
          have HN14 := Lib.hid (HN13.out.trans hN)
          clear hN HIX
          go_wp2_with fail
          refine (loose_any d b H _ (HD10.out.nw HN14.out)).mono ?_
          rw [lsL_nil fun m hm => (HG4.out m hm).2.2]
          rintro e w15 ⟨rfl, hN⟩
          have HN15 := Lib.hid (HN14.out.trans hN)
          clear hN
          go_wp2_with fail
          refine (works_any _).mono ?_
          rintro e w16 ⟨rfl, hN⟩
          go_wp2_with fail
          go_ret
          exact ⟨rfl, ((HN10.out.trans HN15.out).trans hN).b⟩

end Go.Proofs.Ytfjobldfdakfpaa
