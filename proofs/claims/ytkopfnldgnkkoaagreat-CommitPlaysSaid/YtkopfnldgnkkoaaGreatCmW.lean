/-
  THE WALK OF grommetlaw09.works.
-/
import Derived.Test.YtkopfnldgnkkoaaGreatCmI
import Derived.Test.YtkopfnldgnkkoaaGreatCmP
namespace Go.Proofs.YtkopfnldgnkkoaaGreat
open Go.RowKit Go.Shelf
set_option linter.unusedVariables false

theorem zero_clean (N : Nat) : Clean N (fun _ => zeroW) := fun _ _ => ⟨rfl, rfl, rfl, rfl⟩
theorem ex_may : mayW least [(528, 7)] = true := by decide +kernel
theorem ex_len : (beginL 264 [(528, 7)]).length = 15 := by decide +kernel
theorem ex_seen : wrote (ownW 264 (recL [(528, 7)]) ++ [(264, markV (recL [(528, 7)]))] ++ ([(528, 7)] ++ [(264, 0)])) (fun _ => 0) 528 = 7 := by decide +kernel
theorem ex_mayP : mayP least := by unfold mayP least; decide
theorem ex_words : wordsV least = 536 := by decide
theorem ex_block : placeV least 6 1 = 528 := by decide
theorem ex_in : ∀ x ∈ ([(528, 7)] : List Wr), 0 ≤ x.1 ∧ x.1 < 65536 ∧ x.1 < (536 : Nat) := by
  intro x hx; rw [List.mem_singleton.1 hx]; decide
/-- What is known of the example's steps. -/
structure ExL (L : List St) : Prop where
  len : L.length = 15
  ok : ∀ s ∈ L, okOp 536 s.o
  clean : Clean 536 (doAll L fun _ => zeroW)
  seen : (doAll L (fun _ => zeroW) 528).seen = 7
theorem ex_steps : ExL (beginL 264 [(528, 7)]) where
  len := ex_len
  ok := begin_ok (by decide) (by decide) (by decide) (by decide) ex_in
  clean := begin_clean 536 264 (by decide) (by decide) _ (by decide) (fun x hx => ⟨(ex_in x hx).1, (ex_in x hx).2.1⟩) _ (zero_clean 536)
  seen := by rw [doAll_seen, begin_stores]; exact ex_seen

set_option maxRecDepth 100000 in
set_option maxHeartbeats 8000000 in
theorem works_any (w : World) : Calls Tryz.prog 6 #[] w fun e w' => e = .returned (.bool true) ∧ Nw w w' := by
  have HND := Lib.hid (fun W => newd_yes 536 (by decide) (by decide) (by decide) W)
  have HNR : Hid (∀ (d b : Nat) (f : Nat → Wd) (W : World), DevAt W d b 536 f → Calls Tryz.prog 43 #[.pointer (some ⟨d, 0, none⟩), .agg #[.int .i64 1, .int .i64 2, .int .i64 2], .int .i64 0] W (NewRun W d least 264)) :=
    fun d b f W h => new_yes least 0 ex_mayP (by decide) (by decide) d b 536 f (by rw [ex_words]; decide) W h
  have HBA : Hid (∀ W, Calls Tryz.prog 44 #[.agg #[.int .i64 1, .int .i64 2, .int .i64 2], .int .i64 1] W fun e w' => e = .returned (.int .i64 528) ∧ At W w') := by
    intro W
    have := block_at least 1 (At.refl (w := W))
    rw [ex_block] at this
    exact this
  have hn0 := (Nw.refl (w := w)).alloc (.cells #[.int .i64 1, .int .i64 2, .int .i64 2] 26)
  have hb0 := Blk.new w #[.int .i64 1, .int .i64 2, .int .i64 2] 26
  go_enter Tryz.func6, Tryz.ntmps6
  go_upto_region 2 with fail
  generalize w.alloc (.cells #[.int .i64 1, .int .i64 2, .int .i64 2] 26) = w1 at *
  generalize hbx : w.heap.size = bx at hb0 ⊢
  have HBX := Lib.hid hbx
  have HB0 := Lib.hid hb0
  have HN0 := Lib.hid hn0
  clear hbx hb0 hn0
  go_wp2_with fail
  refine (HND.out w1).mono ?_
  rintro e w2 ⟨d, b, rfl, hD, hn2, hb2, hd2⟩
  have HD2 := Lib.hid hD
  have HN2 := Lib.hid (HN0.out.trans hn2)
  have HB2 := Lib.hid (HB0.out.nw hn2)
  have HLB := Lib.hid (Nat.le_trans HN0.out.b.size hb2)
  clear hD hn2 hb2 hd2
  have c0 : w2.cell? ⟨bx, 0, none⟩ = some (.int .i64 1) := HB2.out.cell rfl
  have c1 : w2.cell? ⟨bx, 1, none⟩ = some (.int .i64 2) := HB2.out.cell rfl
  have c2 : w2.cell? ⟨bx, 2, none⟩ = some (.int .i64 2) := HB2.out.cell rfl
  go_wp2_with fail
  refine (HNR.out d b _ w2 HD2.out).mono ?_
  rintro e w3 ⟨r, rfl, hR, hn3, hr3⟩
  have HR3 := Lib.hid hR
  have HD3 := Lib.hid (HD2.out.nw hn3)
  have HB3 := Lib.hid (HB2.out.nw hn3)
  have HN3 := Lib.hid (HN2.out.trans hn3)
  have HLR := Lib.hid (Nat.le_trans HN2.out.b.size hr3)
  clear hR hn3 hr3 c0 c1 c2
  have c0 : w3.cell? ⟨bx, 0, none⟩ = some (.int .i64 1) := HB3.out.cell rfl
  have c1 : w3.cell? ⟨bx, 1, none⟩ = some (.int .i64 2) := HB3.out.cell rfl
  have c2 : w3.cell? ⟨bx, 2, none⟩ = some (.int .i64 2) := HB3.out.cell rfl
  go_wp2_with fail
  refine (HBA.out w3).mono ?_
  rintro e w4 ⟨rfl, h4⟩
  have HR4 := Lib.hid (HR3.out.nw h4.nw)
  have HD4 := Lib.hid (HD3.out.nw h4.nw)
  have HN4 := Lib.hid (HN3.out.trans h4.nw)
  clear h4 c0 c1 c2
  have hn5 := (Nw.refl (w := w4)).alloc (.cells #[.int .i64 528, .int .u64 7] 91)
  have hb5 := Blk.new w4 #[.int .i64 528, .int .u64 7] 91
  have HBG := Lib.hid (begin_yes r d least 264 none (by decide) (by decide) (some ⟨w4.heap.size, 0, none⟩) 1 1 (w4.heap.size + 1) [(528, 7)] rfl (.inr ⟨_, 0, rfl⟩) (by intro x hx; rw [List.mem_singleton.1 hx]; exact ⟨by decide, by unfold u64; decide⟩) ex_may _ (by simp) (.inr ⟨_, 0, rfl, Nat.lt_succ_self _, fun j hj => by
    simp at hj; subst hj; exact ⟨hb5.cell rfl, hb5.cell rfl⟩⟩) (HR4.out.nw hn5) (fun p hp hx => by
    cases hp
    have := HR4.out.own_lt hx
    exact absurd this (Nat.lt_irrefl _)))
  have HX := Lib.hid ex_steps
  obtain ⟨L0, hL0⟩ : ∃ L0, beginL 264 [(528, 7)] = L0 := ⟨_, rfl⟩
  rw [hL0] at HBG HX
  have HD5 := Lib.hid (HD4.out.nw hn5)
  have HN5 := Lib.hid (HN4.out.trans hn5)
  have hlen := HX.out.len
  clear hL0 hb5 hn5
  go_wp2_with fail
  refine HBG.out.mono ?_
  rintro e w6 ⟨rfl, a6, hm6⟩
  have HR6 := Lib.hid hm6.rr
  have HD6 := Lib.hid (HD5.out.upo hm6.u (HR4.out.not_own HD4.out.k.tag (by decide) (by decide)) (HR4.out.not_own HD4.out.a.ty (by decide) (by decide)))
  have HN6 : Hid (Nw w w6) := UpO.nw_of HN5.out hm6.u (fun x hx => by
    rcases hx with rfl | ⟨p, hp, _⟩
    · exact HLR.out
    · cases hp)
  have HF6 : Hid (∀ k, OwnR9 r a6 k → w.heap.size ≤ k) := fun k hk => by
    rcases hm6.o k hk with (rfl | ⟨p, hp, _⟩) | h
    · exact HLR.out
    · cases hp
    · exact Nat.le_trans HN5.out.b.size h
  clear hm6
  have HLF := Lib.hid (fun (W : World) (L : List St) (a : Option Addr) (hl : L.length ≤ 100000) (h : RunAt W r d least 264 L a) => left_any r d least 264 L a hl W h)
  have HL6 := Lib.hid (HLF.out w6 L0 a6 (by omega) HR6.out)
  rw [hlen] at HL6
  go_wp2_with fail
  refine HL6.out.mono ?_
  rintro e w7 ⟨rfl, rfl⟩
  clear HBG HND HNR HBA
  go_wp2_with fail
  go_loopw [9] (fun v wr => ∃ k : Nat, k ≤ 15 ∧ v = .int .i64 k ∧ ∃ a', RunAt wr r d least 264 (L0.drop k) a' ∧ DevAt wr d b 536 (doAll (L0.take k) fun _ => zeroW) ∧ Nw w wr) (fun v _ => 20 - (intOf v).toNat)
  case atStart => exact ⟨0, Nat.zero_le _, rfl, a6, by simpa using HR6.out, by simpa [doAll] using HD6.out, HN6.out⟩
  case round =>
    clear HR6 HD6 HN6 HF6 HL6
    obtain ⟨k, hk, rfl, a', hr, hd, hn⟩ := hrel
    have HR := Lib.hid hr
    have HD := Lib.hid hd
    have HN := Lib.hid hn
    clear hr hd hn
    by_cases hlt : k < 15
    · have hdr : L0.drop k = L0[k]'(by rw [hlen]; exact hlt) :: L0.drop (k + 1) := List.drop_eq_getElem_cons (by rw [hlen]; exact hlt)
      have hdl : (L0.drop (k + 1)).length = 14 - k := by rw [List.length_drop, hlen]; omega
      have HLw := Lib.hid (HLF.out wr (L0.drop k) a' (by rw [List.length_drop, hlen]; omega) HR.out)
      have HDT := Lib.hid (doAll_take_succ (L := L0) (k := k) (by rw [hlen]; exact hlt) (fun _ => zeroW))
      have hokk := HX.out.ok _ (List.getElem_mem (l := L0) (n := k) (by rw [hlen]; exact hlt))
      rw [hdr] at HLw HR
      obtain ⟨s, hs⟩ : ∃ s, L0[k]'(by rw [hlen]; exact hlt) = s := ⟨_, rfl⟩
      rw [hs] at HLw HR HDT hokk
      have HST := Lib.hid (step_any r d b 536 least 264 s (L0.drop (k + 1)) a' (by omega) _ hokk wr HD.out HR.out)
      rw [List.length_cons, hdl] at HLw
      have hpos : 0 < 14 - k + 1 := by omega
      generalize 14 - k + 1 = m at HLw hpos
      clear hdr hs hokk hdl
      go_wp2_with fail
      refine HLw.out.mono ?_
      rintro e w8 ⟨rfl, rfl⟩
      go_wp2_with fail
      refine HST.out.mono ?_
      rintro e w9 ⟨rfl, a9, hr9, hd9, hu9, hq9⟩
      have HR9 := Lib.hid hr9
      have HD9 := Lib.hid hd9
      have HN9 : Hid (Nw w w9) := UpO.nw_of HN.out hu9 (fun x hx => by
        rcases hx with rfl | rfl
        · exact HLB.out
        · exact HLR.out)
      clear hr9 hd9 hu9 hq9
      go_wp2_with fail
      go_roundw
      case rel => exact ⟨k + 1, by omega, by go_num, a9, HR9.out, by rw [HDT.out]; exact HD9.out, HN9.out⟩
      case measure => simp [intOf]; omega
    · obtain rfl : k = 15 := by omega
      rw [List.drop_of_length_le (by rw [hlen]; exact Nat.le_refl _)] at HR
      rw [List.take_of_length_le (by rw [hlen]; exact Nat.le_refl _)] at HD
      have HL0 := Lib.hid (HLF.out wr [] a' (by simp) HR.out)
      have HLD := Lib.hid (load_any d b 536 _ 528 (by decide) wr HD.out)
      rw [HX.out.seen] at HLD
      have HLS := Lib.hid (loose_any d b 536 _ wr HD.out)
      rw [show ((lsL 536 (doAll L0 fun _ => zeroW)).length : Nat) = 0 from clean_loose HX.out.clean] at HLS
      have HPH := Lib.hid (fun (W : World) (h : Nw wr W) => phase_any r d least 264 [] a' (by simp) W (HR.out.nw h))
      have h528 : ((528 : Nat) : Int) = 528 := rfl
      rw [h528] at HLD
      clear h528
      go_wp2_with fail
      refine HL0.out.mono ?_
      rintro e w8 ⟨rfl, rfl⟩
      go_wp2_with fail
      refine HLD.out.mono ?_
      rintro e w8 ⟨rfl, rfl⟩
      go_wp2_with fail
      refine HL0.out.mono ?_
      rintro e w8 ⟨rfl, rfl⟩
      go_wp2_with fail
      refine HLS.out.mono ?_
      rintro e w8 ⟨rfl, hn8⟩
      have HN8 := Lib.hid hn8
      clear hn8
      go_wp2_with fail
      refine (HPH.out w8 HN8.out).mono ?_
      rintro e w9 ⟨rfl, rfl⟩
      go_wp2_with fail
      go_ret
      exact ⟨rfl, HN.out.trans HN8.out⟩

end Go.Proofs.YtkopfnldgnkkoaaGreat
