/-
  RUNS: Resume.
-/
import Derived.Test.YtkopfnldgnkkoaaGreatCmI
import Derived.Test.YtkopfnldgnkkoaaGreatOvH
namespace Go.Proofs.YtkopfnldgnkkoaaGreat
open Go.RowKit Go.Shelf
set_option linter.unusedVariables false

/-- What is seen of an area. -/
def seenA (f : Nat → Wd) (A k : Nat) : List Int := (List.range k).map fun i => (f (A + i)).seen
theorem seenA_len (f : Nat → Wd) (A k : Nat) : (seenA f A k).length = k := by simp [seenA]
theorem seenA_succ (f : Nat → Wd) (A k : Nat) : seenA f A (k + 1) = seenA f A k ++ [(f (A + k)).seen] := by simp [seenA, List.range_succ]
/-- The steps that Resume leaves. -/
def resumeL (g : G) (area : Int) (ar : List Int) : List St := if hd ar = 0 then [] else if comOk g ar = true then applyL area (comL g ar) else markL 6 area 0
def ResR (w : World) (r d : Nat) (g : G) (A : Nat) (a : Option Addr) (ar : List Int) (e : Ending) (w' : World) : Prop :=
  e = .returned (.tuple #[.bool (hd ar != 0), .int .i64 0]) ∧ ∃ a', RunM w r d g (A : Int) a (resumeL g (A : Int) ar) a' w'
set_option maxRecDepth 100000 in
set_option maxHeartbeats 8000000 in
theorem resume_busy (r d : Nat) (g : G) (area : Int) (L : List St) (a : Option Addr) (h0 : 0 < L.length) (w : World) (h : RunAt w r d g area L a) :
    Calls Tryz.prog 14 #[.pointer (some ⟨r, 0, none⟩)] w fun e w' => e = .returned (.tuple #[.bool false, .int .i64 3]) ∧ w = w' := by
  obtain ⟨c, hk, _⟩ := h.k
  have hc5 : w.cell? ⟨r, 5, none⟩ = some (.slice a L.length c) := hk.cell rfl
  clear h hk
  go_enter Tryz.func14, Tryz.ntmps14
  go_wp2_with fail
  go_ret2
  exact ⟨rfl, rfl⟩
set_option maxRecDepth 100000 in
set_option maxHeartbeats 8000000 in
theorem resume_any (r d b N A : Nat) (g : G) (a : Option Addr) (f : Nat → Wd) (hA : A + 208 ≤ N) (hg : wordsV g ≤ 65536) (hu : ∀ k, k < N → u64 (f k).seen) (w : World) (hD : DevAt w d b N f) (hR : RunAt w r d g (A : Int) [] a) :
    Calls Tryz.prog 14 #[.pointer (some ⟨r, 0, none⟩)] w (ResR w r d g A a (seenA f A 208)) := by
  obtain ⟨i0, hi, hz0, hz1, hz2⟩ := info_parts8 info_u64
  have hNl := hD.le
  have HD := Lib.hid hD
  have HR := Lib.hid hR
  have HG := Lib.hid hg
  have HU := Lib.hid hu
  obtain ⟨c, hk, _⟩ := hR.k
  have hc5 : w.cell? ⟨r, 5, none⟩ = some (.slice a 0 c) := hk.cell rfl
  have HK := Lib.hid hk
  have hAi : (A : Int) ≤ 65536 := by omega
  clear hD hR hg hu hk
  go_enter Tryz.func14, Tryz.ntmps14
  go_wp2_with fail
  clear hc5
  go_loopw [21, 4] (fun i v wq => ∃ k : Nat, k ≤ 208 ∧ i = .int .i64 k ∧ Nw w wq ∧ wq.ownsRow w.heap.size 44 1 v k ((seenA f A k).map (.int .u64))) (fun i _ _ => 208 - (intOf i).toNat)
  case atStart => exact ⟨0, Nat.zero_le _, rfl, Nw.refl, rfl, .inl ⟨rfl, rfl⟩⟩
  case round =>
    obtain ⟨k, hk, rfl, hn, how⟩ := hrel
    have HN := Lib.hid hn
    have HOW := Lib.hid how
    by_cases hk2 : k < 208
    · have hki : (k : Int) < 208 := by omega
      have hk0 : (0 : Int) ≤ (k : Int) := by omega
      have HST := Lib.hid (seenA_succ f A k)
      obtain ⟨q, hq⟩ : ∃ q, q = A + k := ⟨_, rfl⟩
      have hwq : IntKind.i64.wrap ((A : Int) + (k : Int)) = (q : Int) := by rw [hq, show (A : Int) + (k : Int) = ((A + k : Nat) : Int) by omega]; exact IntWalk.i64_in _ (by omega)
      have hkr := HK.out.nw hn
      have r0 : wr.cell? ⟨r, 0, none⟩ = some (.pointer (some ⟨d, 0, none⟩)) := hkr.cell rfl
      have r4 : wr.cell? ⟨r, 4, none⟩ = some (.int .i64 (A : Int)) := hkr.cell rfl
      have HLD : Hid (∀ W, Nw wr W → Calls Tryz.prog 45 #[.pointer (some ⟨d, 0, none⟩), .int .i64 (q : Int)] W fun e w' => e = .returned (.tuple #[.int .u64 (f q).seen, .int .i64 0]) ∧ W = w') := fun W hW => load_any d b N f q (by omega) W ((HD.out.nw hn).nw hW)
      rw [← hq] at HST
      have HK9 : Hid (∀ W, Nw wr W → W.cell? ⟨r, 0, none⟩ = some (.pointer (some ⟨d, 0, none⟩)) ∧ W.cell? ⟨r, 4, none⟩ = some (.int .i64 (A : Int)) ∧ Nw wr W) := fun W hW => ⟨(hkr.nw hW).cell rfl, (hkr.nw hW).cell rfl, hW⟩
      generalize (f q).seen = v at *
      have HH := Lib.hid hwq
      have hqn : q ≤ N := by omega
      clear hn how hkr hwq hq
      go_wp2_with fail
      have hwq := HH.out
      go_region_held3 (fun w' => w'.cell? ⟨r, 0, none⟩ = some (.pointer (some ⟨d, 0, none⟩)) ∧ w'.cell? ⟨r, 4, none⟩ = some (.int .i64 (A : Int)) ∧ Nw wr w')
        (first | (exact HK9.out _ Nw.refl.drew))
        ((first
          | (go_at_call 45; (with_reducible refine (HLD.out _ Nw.refl.drew).mono ?_); rintro e w3 ⟨rfl, rfl⟩)))
      clear r0 r4 hwq
      have HOWd := Lib.hid (own_below (Nw.refl (w := wr)).drew.b HOW.out)
      have HNd := Lib.hid HN.out.drew
      have hs1 := HN.out.drew.b.size
      generalize wr.drew = w4 at *
      go_wp2_with (first | (at_builtin; refine wpList_append_ints _ rfl (.tmp 41) (.tmp 43) 33 rfl w.heap.size 44 i0 (.int .u64 0) 8 Tryz.underlying33 hi hz0 hz1 hz2 rfl _ _ _ rfl (HOWd.out.alloc _) _ 1 1 .u64 [v] _ rfl rfl (Ints.one _ _ _ _) (by unfold maxLen; omega) (by omega) (by simp; omega) ?_; intro v3 w3 hown3 hgrow3; have hb3 : Below w.heap.size w w3 := Below.grownRow (HNd.out.b.alloc hs1 _) hgrow3 (by simp; omega) (HOWd.out.alloc _) (Nat.le_refl _); clear hgrow3; rw [← List.map_append] at hown3) | fail)
      go_roundw
      case rel => exact ⟨k + 1, by omega, by go_num, ⟨hb3⟩, by rw [HST.out]; exact hown3⟩
      case measure => simp [intOf]; omega
    · obtain rfl : k = 208 := by omega
      obtain ⟨gb, gc, rfl, hgb, hgl⟩ := own_pos how (by decide)
      obtain ⟨oa', oc', he, hsl, hIs⟩ := Ints.of_owns how
      simp only [Value.slice.injEq, true_and] at he
      obtain ⟨rfl, rfl⟩ := he
      have hgc : 208 ≤ gc := own_cap how
      have hus : ∀ x ∈ seenA f A 208, u64 x := fun x hx => by
        simp only [seenA, List.mem_map, List.mem_range] at hx
        obtain ⟨i, hi, rfl⟩ := hx
        exact HU.out _ (by omega)
      have HCM := Lib.hid (committed_any g gb 0 gc wr.heap.size (seenA f A 208) hsl hgc hus wr (Nat.le_refl _) hIs)
      unfold ComR gV at HCM
      have HRr := Lib.hid (HR.out.nw hn)
      have hkr := HK.out.nw hn
      have r1 : wr.cell? ⟨r, 1, none⟩ = some (.int .i64 g.w) := hkr.cell rfl
      have r2 : wr.cell? ⟨r, 2, none⟩ = some (.int .i64 g.i) := hkr.cell rfl
      have r3 : wr.cell? ⟨r, 3, none⟩ = some (.int .i64 g.b) := hkr.cell rfl
      have HLE := Lib.hid (comL_le g (seenA f A 208))
      have HIN := Lib.hid (fun x (hx : x ∈ comL g (seenA f A 208)) => (comL_in hx : 0 ≤ x.1 ∧ x.1 < wordsV g))
      have HRS := Lib.hid (show resumeL g (A : Int) (seenA f A 208) = if hd (seenA f A 208) = 0 then [] else if comOk g (seenA f A 208) = true then applyL (A : Int) (comL g (seenA f A 208)) else markL 6 (A : Int) 0 from rfl)
      unfold ResR
      generalize seenA f A 208 = ar at *
      clear hn how hsl hIs hus hkr HOW
      go_wp2_with fail
      (with_reducible refine HCM.out.mono ?_)
      rintro e w3 ⟨la, n, lc, rfl, hnc, hP, hn3, hf3⟩
      have HP3 := Lib.hid hP
      have HF3 := Lib.hid hf3
      have HN3 := Lib.hid (HN.out.trans hn3)
      have HR3 := Lib.hid (HRr.out.nw hn3)
      have HRw := Lib.hid (show RunM w r d g (A : Int) a [] a w3 from (RunM.refl HR.out).nw HN3.out)
      clear hP hf3 hn3 r1 r2 r3 HRr HCM
      by_cases h0 : hd ar = 0
      · have HB := Lib.hid (show (hd ar != 0) = false by rw [h0]; rfl)
        have HE := Lib.hid (show resumeL g (A : Int) ar = [] by rw [HRS.out, if_pos h0])
        rw [HB.out]
        clear h0
        go_wp2_with fail
        go_ret2
        exact ⟨by rw [HB.out]; rfl, a, by rw [HE.out]; exact HRw.out⟩
      have HB := Lib.hid (show (hd ar != 0) = true by rw [bne_iff_ne]; exact h0)
      rw [HB.out]
      cases hok : comOk g ar
      · have HE := Lib.hid (show resumeL g (A : Int) ar = markL 6 (A : Int) 0 by rw [HRS.out, if_neg h0, if_neg (by rw [hok]; simp)])
        have HMK := Lib.hid (mark_any' r d g (A : Int) [] a 6 0 (by simp) (by omega) (by omega) w3 HR3.out)
        clear h0 hok
        go_wp2_with fail
        (with_reducible refine HMK.out.mono ?_)
        rintro e w5 ⟨⟨u, rfl⟩, a5, hm5⟩
        have HM5 := Lib.hid (HRw.out.then hm5)
        clear hm5
        go_wp2_with fail
        go_ret2
        exact ⟨by rw [HB.out]; rfl, a5, by rw [HE.out]; exact HM5.out⟩
      · obtain ⟨hnl, hPl⟩ := HP3.out hok
        have HE := Lib.hid (show resumeL g (A : Int) ar = applyL (A : Int) (comL g ar) by rw [HRS.out, if_neg h0, if_pos hok])
        have hle := HLE.out
        have HAP := Lib.hid (apply_any r d g (A : Int) [] a la n lc (comL g ar) hnl.symm (by simp; omega) (fun x hx => by have h1 := HIN.out x hx; have h2 := HG.out; omega) (by omega) (by omega) w3 HR3.out (fun W' k' => (pairs_upo hPl k' (fun p hp hx => by
          have h1 := HF3.out p hp
          have h2 := HR.out.own_lt hx
          have h3 := HN.out.b.size
          omega)).mono k'.size))
        clear h0 hok hnl hPl
        go_wp2_with fail
        (with_reducible refine HAP.out.mono ?_)
        rintro e w5 ⟨⟨u, rfl⟩, a5, hm5⟩
        have HM5 := Lib.hid (HRw.out.then hm5)
        clear hm5
        go_wp2_with fail
        go_ret2
        exact ⟨by rw [HB.out]; rfl, a5, by rw [HE.out]; exact HM5.out⟩
end Go.Proofs.YtkopfnldgnkkoaaGreat
